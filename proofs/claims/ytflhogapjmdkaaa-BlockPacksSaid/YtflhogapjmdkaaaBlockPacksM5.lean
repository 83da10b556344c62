/- The logical machine, its likeness to the model, and the contracts of the functions that the law calls. Printed by pack.py, a program of this work, out of its texts; what the law does not use is left out. -/
import Derived.Test.YtflhogapjmdkaaaBlockPacksM4
section
set_option maxRecDepth 100000
set_option linter.unusedVariables false
namespace Go.Proofs.Ytflhogapjmdkaaa.X
open Go Go.Rlm
theorem specOk : SpecOk Proofs.Try.prog T := by
  have key : ∀ f g, T.spec f = some g → f = 25 ∧ g = caughtSpec := by
    intro f g h
    have h : (bif Nat.beq 25 f then some caughtSpec else none) = some g := h
    cases hb : Nat.beq 25 f with
    | true => rw [hb] at h; injection h with h; exact ⟨(Nat.eq_of_beq_eq_true hb).symm, h.symm⟩
    | false => rw [hb] at h; cases h
  constructor
  · intro f g h _
    obtain ⟨rfl, rfl⟩ := key f g h
    exact ⟨_, _, func25, body25⟩
  · intro f g h call hc args L r hr m w args' h1 h2
    obtain ⟨rfl, rfl⟩ := key f g h
    exact caught_ok hc hr h1 h2
theorem f25_eq (k : Nat) (fv : Value) (L : LHeap) : f25 (k + 1) fv L = caughtSpec (lcall Proofs.Try.prog T k) [fv] L := by kernel_rfl
theorem caught_ret {k : Nat} {fv v : Value} {L L2 : LHeap} (h : lappF (lcall Proofs.Try.prog T k) fv [] (L ++ [.cells [.int .i64 0] 24 false 0]) = some (.ret v L2)) (hb : L2[L.length]? = some (.cells [.int .i64 0] 24 false 0)) :
    f25 (k + 1) fv L = some (.ret (.int .i64 0) (L2.set L.length (.cells [.int .i64 0] 24 false 0))) := by
  rw [f25_eq]
  unfold caughtSpec
  simp only [h]
  rw [stores_of hb (by simp)]
  rfl
theorem caught_pan {k : Nat} {fv : Value} {n : Int} {L L2 : LHeap} (h : lappF (lcall Proofs.Try.prog T k) fv [] (L ++ [.cells [.int .i64 0] 24 false 0]) = some (.pan (.iface 24 (.int .i64 n)) L2)) (hb : L2[L.length]? = some (.cells [.int .i64 0] 24 false 0)) :
    f25 (k + 1) fv L = some (.ret (.int .i64 n) (L2.set L.length (.cells [.int .i64 n] 24 false 0))) := by
  rw [f25_eq]
  unfold caughtSpec
  simp only [h]
  rw [stores_of hb (by simp)]
  rfl
theorem putAll_loop {k r w b1 b2 : Nat} {s1 s3 : ByteArray} {l : Sl} {ts : List Tok} {z1 z2 : List Int} {A F1 F2 : List Nat}
    (ht : ∀ t ∈ ts, tokShape t = true ∧ t.wf ∧ 0 < z1.getD (sym1 t) 0 ∧ (t.k ≠ 1 → 0 < z2.getD (sym2 t) 0)) (m1 : may z1 = true) (m2 : may z2 = true) (hs : ts.length ≤ 1048576) (hk : 90 ≤ k) :
    ∀ (q i j : Nat) (bs : List Bool) (G : List Nat) (L : LHeap), i + q = ts.length → q < j → RT L l ts A → Apart G A → PS L r w b1 b2 z1 z2 bs G F1 F2 → bs.length + 52 * q < 2 ^ 37 →
    ∃ L' G', Step G L G' L' ∧ PS L' r w b1 b2 z1 z2 (bs ++ (ts.drop i).flatMap (tokBits z1 z2)) G' F1 F2 ∧
      f27_l16 k j (some ⟨b1, 0, none⟩) s1 (some ⟨b2, 0, none⟩) s3 r r r l (l.n : Int) (i : Int) L = f27_l16 k (j - q) (some ⟨b1, 0, none⟩) s1 (some ⟨b2, 0, none⟩) s3 r r r l (l.n : Int) (ts.length : Int) L' := by
  intro q
  induction q with
  | zero =>
    intro i j bs G L hi hj hl hA h hb
    rw [List.drop_of_length_le (by omega)]
    exact ⟨L, G, .refl _ _, by simpa using h, by rw [Nat.sub_zero, show i = ts.length by omega]⟩
  | succ q ih =>
    intro i j bs G L hi hj hl hA h hb
    obtain ⟨j, rfl⟩ : ∃ j', j = j' + 1 := ⟨j - 1, by omega⟩
    obtain ⟨kk, rfl⟩ : ∃ k', k = k' + 1 := ⟨k - 1, by omega⟩
    have hi2 : i < ts.length := by omega
    have hn := hl.len
    obtain ⟨a, a1, a2⟩ := hl.here (List.getElem?_eq_getElem hi2)
    obtain ⟨d0, d1, d2, d3, d4⟩ := a2 L fun _ _ => rfl
    have htm : ts[i] ∈ ts := List.getElem_mem hi2
    have hdr : ts.drop i = ts[i] :: ts.drop (i + 1) := List.drop_eq_getElem_cons hi2
    generalize hti : ts[i] = t at *
    obtain ⟨hsh, hw, p1, p2⟩ := ht t htm
    rw [f27_l16_eq, decide_eq_true (by omega), lif_true, a1]
    simp only [obind_some, d0, d1, d2, d3, d4, Option.bind_some, asI_int]
    rw [stores_new (by rfl)]
    simp only [obind_some]
    have hx : L ++ [LBlk.cells [Value.int .u8 t.k, Value.int .u8 t.b, Value.int .i64 t.l, Value.int .i64 t.d, Value.int .i64 t.s] 29 false 0] = L ++ [LBlk.cells (tokL t) 29 false 0] := rfl
    rw [hx]
    have g0 : (L ++ [LBlk.cells (tokL t) 29 false 0])[L.length]? = some (.cells (tokL t) 29 false 0) := get_new
    obtain ⟨e0, e1, e2, e3, e4⟩ := tok_cell g0
    have hlen0 : L.length < (L ++ [LBlk.cells (tokL t) 29 false 0]).length := by simp
    have st0 : Step G L G (L ++ [LBlk.cells (tokL t) 29 false 0]) := .push _ _ _
    have h0 : PS (L ++ [LBlk.cells (tokL t) 29 false 0]) r w b1 b2 z1 z2 bs G F1 F2 := h.push
    generalize L ++ [LBlk.cells (tokL t) 29 false 0] = L0 at *
    simp only [e0, e1, e2, e3, e4, Option.bind_some, asI_int, obind_some]
    rw [f52_eq]
    simp only [lbindR_ret]
    have h1 : PS (L0 ++ [LBlk.cells [Value.pointer (some ⟨b1, 0, none⟩)] 58 false 0]) r w b1 b2 z1 z2 bs G F1 F2 := h0.push
    have k1 : (L0 ++ [LBlk.cells [Value.pointer (some ⟨b1, 0, none⟩)] 58 false 0])[L0.length]? = some (.cells [Value.pointer (some ⟨b1, 0, none⟩)] 58 false 0) := get_new
    have g1 : (L0 ++ [LBlk.cells [Value.pointer (some ⟨b1, 0, none⟩)] 58 false 0])[L.length]? = some (.cells (tokL t) 29 false 0) := by rw [get_push hlen0, g0]
    have st1 : Step G L0 G (L0 ++ [LBlk.cells [Value.pointer (some ⟨b1, 0, none⟩)] 58 false 0]) := .push _ _ _
    have hlen1 : L0.length < (L0 ++ [LBlk.cells [Value.pointer (some ⟨b1, 0, none⟩)] 58 false 0]).length := by simp
    obtain ⟨e0, e1, e2, e3, e4⟩ := tok_cell g1
    generalize L0 ++ [LBlk.cells [Value.pointer (some ⟨b1, 0, none⟩)] 58 false 0] = L1 at *
    simp only [e0, e1, e2, e3, e4, Option.bind_some, asI_int, obind_some, same_self, when_true]
    rw [f52_eq]
    simp only [lbindR_ret]
    have h2 : PS (L1 ++ [LBlk.cells [Value.pointer (some ⟨b2, 0, none⟩)] 58 false 0]) r w b1 b2 z1 z2 bs G F1 F2 := h1.push
    have k2 : (L1 ++ [LBlk.cells [Value.pointer (some ⟨b2, 0, none⟩)] 58 false 0])[L1.length]? = some (.cells [Value.pointer (some ⟨b2, 0, none⟩)] 58 false 0) := get_new
    have k1' : (L1 ++ [LBlk.cells [Value.pointer (some ⟨b2, 0, none⟩)] 58 false 0])[L0.length]? = some (.cells [Value.pointer (some ⟨b1, 0, none⟩)] 58 false 0) := by rw [get_push hlen1, k1]
    have g2 : (L1 ++ [LBlk.cells [Value.pointer (some ⟨b2, 0, none⟩)] 58 false 0])[L.length]? = some (.cells (tokL t) 29 false 0) := by rw [get_push (by omega), g1]
    have st2 : Step G L1 G (L1 ++ [LBlk.cells [Value.pointer (some ⟨b2, 0, none⟩)] 58 false 0]) := .push _ _ _
    obtain ⟨e0, e1, e2, e3, e4⟩ := tok_cell g2
    generalize L1 ++ [LBlk.cells [Value.pointer (some ⟨b2, 0, none⟩)] 58 false 0] = L2 at *
    simp only [e0, e1, e2, e3, e4, Option.bind_some, asI_int, obind_some, same_self, when_true]
    have nG : ∀ {x : Nat}, L.length ≤ x → x ∉ G := fun {x} hx hi => by have := h.bw.within _ hi; omega
    obtain ⟨L3, G3, v1, v2, v3⟩ := put_said (k := kk + 1) h2 hsh hw m1 m2 p1 p2 k1' k2 (nG (by omega)) (nG (by omega)) (by omega) (by omega)
    have v1 : f47 (kk + 1) t.k t.b t.l t.d t.s (.func (.func 53) #[] #[.pointer (some ⟨L0.length, 0, none⟩), .pointer (some ⟨r, 0, none⟩)]) (.func (.func 53) #[] #[.pointer (some ⟨L1.length, 0, none⟩), .pointer (some ⟨r, 0, none⟩)])
      (.func (.func 55) #[] #[.pointer (some ⟨r, 0, none⟩)]) L2 = some (.ret (.tuple #[]) L3) := v1
    rw [v1]
    simp only [lbindR_ret]
    have sAll : Step G L G3 L3 := st0.trans (st1.trans (st2.trans v3))
    have htl := tokBits_le m1 m2 hsh
    obtain ⟨L4, G4, w1, w2, w3⟩ := ih (i + 1) j _ G3 L3 (by omega) (by omega) (hl.mono (sAll.others hl.within hA)) (sAll.apart hl.within hA) v2 (by rw [List.length_append]; omega)
    rw [wI64 (by omega) (by omega), show (i : Int) + 1 = ((i + 1 : Nat) : Int) by omega]
    refine ⟨L4, G4, sAll.trans w1, ?_, ?_⟩
    · rw [hdr, List.flatMap_cons, ← List.append_assoc]
      exact w2
    · rw [w3]
      congr 1
      omega
theorem cut_all {L : LHeap} {b n : Nat} (hn : n < 1000) (h0 : n ≠ 0) : cut L ⟨some ⟨b, 0, none⟩, n, n⟩ none none none 1 = some ⟨some ⟨b, 0, none⟩, n, n⟩ := by
  have hO : Nat.blt n OPEN = true := by rw [show OPEN = 18446744073709551616 from rfl]; simp; omega
  simp only [cut, hO, cond_true, Option.isSome_none, cond_false, bound_out (Nat.le_refl n), bound_out (Nat.zero_le n), Option.bind_eq_bind, Option.bind_some]
  rw [if_neg (by omega)]
  simp [mk_add]
theorem cut_to {L : LHeap} {b n m : Nat} (hn : n < 1000) (hm : m ≤ n) (h0 : n ≠ 0) : cut L ⟨some ⟨b, 0, none⟩, n, n⟩ none (some (m : Int)) none 1 = some ⟨some ⟨b, 0, none⟩, m, n⟩ := by
  have hO : Nat.blt n OPEN = true := by rw [show OPEN = 18446744073709551616 from rfl]; simp; omega
  simp only [cut, hO, cond_true, Option.isSome_none, cond_false, bound_out (Nat.le_refl n), bound_at n hm, bound_out (Nat.zero_le m), Option.bind_eq_bind, Option.bind_some]
  rw [if_neg (by omega)]
  simp [mk_add]
theorem strOf_app (a b : List Nat) : strOf a ++ strOf b = strOf (a ++ b) := by
  apply ByteArray.ext
  rw [ByteArray.data_append]
  simp [strOf]
/-- Tokens packed, or the panic that tells that one's shape may not be. -/
theorem packed_ok {k : Nat} {l : Sl} {ts : List Tok} {A : List Nat} {L : LHeap} (hl : RT L l ts A) (hf : Fit ts) (hk : ts.length + 900 ≤ k) :
    ∃ L', Step [] L [] L' ∧ f27 k l L = if ts.all tokShape then some (.ret (.string (strOf (packB ts))) L') else some (.pan (.iface 24 (.int .i64 4)) L') := by
  obtain ⟨k, rfl⟩ : ∃ k', k = k' + 1 := ⟨k - 1, by omega⟩
  obtain ⟨hlen, hw⟩ := hf
  have hn := hl.len
  rw [f27_eq]
  have hrep : List.replicate 277 (Value.int IntKind.i64 0) = (List.replicate 277 (0 : Int)).map iV := by rw [List.map_replicate]; rfl
  rw [hrep]
  have st1 : Step [] L [L.length] (L ++ [LBlk.cells ((List.replicate 277 (0 : Int)).map iV) 80 false 0]) := .new _ _ _
  have g1 : (L ++ [LBlk.cells ((List.replicate 277 (0 : Int)).map iV) 80 false 0])[L.length]? = some (.cells ((List.replicate 277 (0 : Int)).map iV) 80 false 0) := get_new
  have hlt : L.length < (L ++ [LBlk.cells ((List.replicate 277 (0 : Int)).map iV) 80 false 0]).length := by simp
  generalize L ++ [LBlk.cells ((List.replicate 277 (0 : Int)).map iV) 80 false 0] = L1 at *
  have st2 : Step [L.length] L1 [L1.length, L.length] (L1 ++ [LBlk.cells ((List.replicate 277 (0 : Int)).map iV) 80 false 0]) := .new _ _ _
  have g2 : (L1 ++ [LBlk.cells ((List.replicate 277 (0 : Int)).map iV) 80 false 0])[L1.length]? = some (.cells ((List.replicate 277 (0 : Int)).map iV) 80 false 0) := get_new
  have g1' : (L1 ++ [LBlk.cells ((List.replicate 277 (0 : Int)).map iV) 80 false 0])[L.length]? = some (.cells ((List.replicate 277 (0 : Int)).map iV) 80 false 0) := by rw [get_push hlt, g1]
  generalize L1 ++ [LBlk.cells ((List.replicate 277 (0 : Int)).map iV) 80 false 0] = L2 at *
  rw [mk_add, stores_of g1' (by simp)]
  have hset : setAll ((List.replicate 277 (0 : Int)).map iV) (0 + 256) [Value.int IntKind.i64 1] = ((List.replicate 277 (0 : Int)).set 256 1).map iV := by
    rw [List.map_set]; rfl
  rw [hset]
  simp only [obind_some]
  have st3 : Step [L1.length, L.length] L2 [L1.length, L.length] (L2.set L.length (.cells (((List.replicate 277 (0 : Int)).set 256 1).map iV) 80 false 0)) := .set _ (by simp)
  have q1 : (L2.set L.length (.cells (((List.replicate 277 (0 : Int)).set 256 1).map iV) 80 false 0))[L.length]? = some (.cells (((List.replicate 277 (0 : Int)).set 256 1).map iV) 80 false 0) := get_set_self g1'
  have q2 : (L2.set L.length (.cells (((List.replicate 277 (0 : Int)).set 256 1).map iV) 80 false 0))[L1.length]? = some (.cells ((List.replicate 277 (0 : Int)).map iV) 80 false 0) := by rw [get_set_ne (by omega), g2]
  generalize L2.set L.length (.cells (((List.replicate 277 (0 : Int)).set 256 1).map iV) 80 false 0) = L3 at *
  have sA : Step [] L [L1.length, L.length] L3 := st1.trans (st2.trans st3)
  have hlw := hl.within
  have apL : Apart [L.length, L1.length] A := by
    intro x hx ha
    have := hlw x ha
    simp at hx
    omega
  have hl3 : RT L3 l ts A := hl.mono (sA.others hlw fun _ h => by cases h)
  have bnd : ∀ x ∈ (List.replicate 277 (0 : Int)).set 256 1, 0 ≤ x ∧ x ≤ ((0 : Nat) : Int) + 1 := by
    intro x hx
    rcases List.mem_or_eq_of_mem_set hx with h1 | h1
    · rw [List.eq_of_mem_replicate h1]; omega
    · omega
  have bnd2 : ∀ x ∈ List.replicate 277 (0 : Int), 0 ≤ x ∧ x ≤ ((0 : Nat) : Int) + 1 := by
    intro x hx
    rw [List.eq_of_mem_replicate hx]; omega
  obtain ⟨L4, t1, t2, t3⟩ := tally_loop (k := k) (r1 := L.length) (r2 := L1.length) (by omega) apL hw (by omega) (by omega) ts.length 0 k _ _ L3 (by omega) (by omega) hl3 q1 q2 (by simp) (by simp) bnd bnd2
  have sB : Step [] L [] L4 := (sA.trans (t1.mono fun i hi => by simp at hi ⊢; omega)).less fun i hi => by cases hi
  rw [List.drop_zero] at t2 t3
  by_cases hall : ∀ t ∈ ts, tokShape t = true
  case neg =>
    refine ⟨L4, sB, ?_⟩
    rw [if_neg (by simpa using hall)]
    exact t3 hall
  · have hA2 : ts.all tokShape = true := by simpa using hall
    simp only [hA2, if_true]
    obtain ⟨u1, u2, u3⟩ := t2 hall
    have hsy1 : ∀ t ∈ ts, sym1 t < 277 := fun t ht => (sym1_lt (hall t ht) (hw t ht)).1
    have hsy2 : ∀ t ∈ ts, t.k ≠ 1 → sym2 t < 9 := fun t ht h => sym2_lt (hall t ht) h
    rw [tick1_freq hsy1] at u1
    have htk := tick2_freq (ts := ts) fun t ht h => by have := hsy2 t ht h; omega
    have r1 : Rd L4 ⟨some ⟨L.length, 0, none⟩, 277, 277⟩ ((freq1 ts).map iV) [L.length] :=
      ⟨by simp, .inr ⟨L.length, 0, _, 80, false, 0, rfl, u1, fun i hi => by rw [Nat.zero_add], rfl⟩⟩
    have r2 : Rd L4 ⟨some ⟨L1.length, 0, none⟩, 9, 277⟩ ((freq2 ts).map iV) [L1.length] := by
      refine ⟨by simp, .inr ⟨L1.length, 0, _, 80, false, 0, rfl, u2, fun i hi => ?_, rfl⟩⟩
      have hi9 : i < 9 := by simpa using hi
      rw [Nat.zero_add, List.getElem?_map, List.getElem?_map, ← htk, List.getElem?_take, if_pos hi9]
    have hm1 := may1 hlen
    have hm2 := may2 hlen
    have u3' : f27_l4 k k l L.length L1.length l (l.n : Int) 0 L3 = f27_l4 k (k - ts.length) l L.length L1.length l (l.n : Int) (ts.length : Int) L4 := u3
    rw [u3']
    obtain ⟨j, hj⟩ : ∃ j, k - ts.length = j + 1 := ⟨k - ts.length - 1, by omega⟩
    rw [hj, f27_l4_eq, decide_eq_false (by omega), lif_false, cut_all (by omega) (by omega)]
    simp only [obind_some]
    obtain ⟨b1, F1, L5, c1, c2, c3⟩ := coder_ok (k := k) r1 (freq1_ok hlen) (by simp) (by simp; omega)
    rw [c1]
    simp only [lbind_ret, tupL_tuple, uncons_cons, nilL_nil, asP_pointer, asS_string, obind_some]
    rw [show (9 : Int) = ((9 : Nat) : Int) from rfl, cut_to (by omega) (by omega) (by omega)]
    simp only [obind_some]
    obtain ⟨b2, F2, L6, d1, d2, d3⟩ := coder_ok (k := k) (r2.mono (c3.others r2.within fun _ h => by cases h)) (freq2_ok hlen) (by simp) (by simp; omega)
    rw [d1]
    simp only [lbind_ret, tupL_tuple, uncons_cons, nilL_nil, asP_pointer, asS_string, obind_some]
    have cO1 : CO L6 b1 (lens1 ts) F1 := c2.mono (d3.others c2.within fun _ h => by cases h) d3.len
    have sC : Step [] L [] L6 := sB.trans ((c3.less fun i hi => by cases hi).trans (d3.less fun i hi => by cases hi))
    rw [stores_new (by rfl)]
    simp only [obind_some]
    have pw : BW (L6 ++ [LBlk.cells [Value.slice none 0 0, Value.int IntKind.i64 0] 88 false 0]) L6.length [] [L6.length] := BW.new _
    have w1 : Step [] L6 [L6.length] (L6 ++ [LBlk.cells [Value.slice none 0 0, Value.int IntKind.i64 0] 88 false 0]) := .new _ _ _
    have hlt6 : L6.length < (L6 ++ [LBlk.cells [Value.slice none 0 0, Value.int IntKind.i64 0] 88 false 0]).length := by simp
    generalize L6 ++ [LBlk.cells [Value.slice none 0 0, Value.int IntKind.i64 0] 88 false 0] = L7 at *
    have w2 : Step [L6.length] L7 [L6.length] (L7 ++ [LBlk.cells [Value.pointer (some ⟨L6.length, 0, none⟩)] 86 false 0]) := .push _ _ _
    have pr : (L7 ++ [LBlk.cells [Value.pointer (some ⟨L6.length, 0, none⟩)] 86 false 0])[L7.length]? = some (.cells [Value.pointer (some ⟨L6.length, 0, none⟩)] 86 false 0) := get_new
    have pw2 : BW (L7 ++ [LBlk.cells [Value.pointer (some ⟨L6.length, 0, none⟩)] 86 false 0]) L6.length [] [L6.length] := pw.mono fun i hi => get_push (pw.within i hi)
    generalize L7 ++ [LBlk.cells [Value.pointer (some ⟨L6.length, 0, none⟩)] 86 false 0] = L8 at *
    have sD : Step [] L6 [L6.length] L8 := w1.trans w2
    have ps : PS L8 L7.length L6.length b1 b2 (lens1 ts) (lens2 ts) [] [L6.length] F1 F2 := by
      refine ⟨pr, pw2, cO1.mono (sD.others cO1.within fun _ h => by cases h) sD.len, d2.mono (sD.others d2.within fun _ h => by cases h) sD.len, by simp; omega, ?_, ?_⟩
      · intro x hx hf
        have := cO1.within x hf
        simp at hx; omega
      · intro x hx hf
        have := d2.within x hf
        simp at hx; omega
    have hl8 : RT L8 l ts A := hl.mono fun i hi => by
      have h1 := sC.keep i (hlw i hi) (by simp)
      have h2 := sD.keep i (by have := hlw i hi; have := sC.len; omega) (by simp)
      rw [h2, h1]
    have ap8 : Apart [L6.length] A := by
      intro x hx ha
      have := hlw x ha
      have := sC.len
      simp at hx; omega
    obtain ⟨L9, G9, x1, x2, x3⟩ := putAll_loop (k := k) (r := L7.length) (w := L6.length) (b1 := b1) (b2 := b2) (s1 := strOf (tabBytes (lens1 ts))) (s3 := strOf (tabBytes (lens2 ts))) (l := l) (ts := ts) (A := A) (F1 := F1) (F2 := F2)
      (fun t ht => ⟨hall t ht, hw t ht, pos1 hlen ht (hsy1 t ht), fun hk => pos2 hlen ht hk (hsy2 t ht hk)⟩) hm1 hm2 hlen (by omega) ts.length 0 k [] [L6.length] L8 (by omega) (by omega) hl8 ap8 ps (by simp; omega)
    have x3' : f27_l16 k k (some ⟨b1, 0, none⟩) (strOf (tabBytes (lengthsOf (freq1 ts)))) (some ⟨b2, 0, none⟩) (strOf (tabBytes (lengthsOf (freq2 ts)))) L7.length L7.length L7.length l (l.n : Int) 0 L8 =
      f27_l16 k (k - ts.length) (some ⟨b1, 0, none⟩) (strOf (tabBytes (lengthsOf (freq1 ts)))) (some ⟨b2, 0, none⟩) (strOf (tabBytes (lengthsOf (freq2 ts)))) L7.length L7.length L7.length l (l.n : Int) (ts.length : Int) L9 := x3
    rw [x3', hj, f27_l16_eq, decide_eq_false (by omega), lif_false]
    obtain ⟨kk, rfl⟩ : ∃ k', k = k' + 1 := ⟨k - 1, by omega⟩
    rw [f52_eq]
    simp only [lbind_ret]
    have y1 : PS (L9 ++ [LBlk.cells [Value.pointer (some ⟨b1, 0, none⟩)] 58 false 0]) L7.length L6.length b1 b2 (lens1 ts) (lens2 ts) _ G9 F1 F2 := x2.push
    have y2 : (L9 ++ [LBlk.cells [Value.pointer (some ⟨b1, 0, none⟩)] 58 false 0])[L9.length]? = some (.cells [Value.pointer (some ⟨b1, 0, none⟩)] 58 false 0) := get_new
    have y3 : Step G9 L9 G9 (L9 ++ [LBlk.cells [Value.pointer (some ⟨b1, 0, none⟩)] 58 false 0]) := .push _ _ _
    generalize L9 ++ [LBlk.cells [Value.pointer (some ⟨b1, 0, none⟩)] 58 false 0] = L10 at *
    have hbl := packBits_le hm1 hm2 ts hall
    have hbl2 : (([] : List Bool) ++ (ts.drop 0).flatMap (tokBits (lens1 ts) (lens2 ts))).length ≤ 52 * ts.length + 15 := by
      rw [List.drop_zero, List.nil_append]
      unfold packBits at hbl
      rw [List.length_append] at hbl
      omega
    obtain ⟨L11, G11, z1, z2, z3⟩ := app53 (k := kk + 1) (s := 256) y2 y1.at_r y1.c1 hm1 y1.bw (by omega) (pos256 hlen) (by omega)
    have z1' : lapp (lcall Proofs.Try.prog T (kk + 1)) (.func (.func 53) #[] #[.pointer (some ⟨L9.length, 0, none⟩), .pointer (some ⟨L7.length, 0, none⟩)]) [.int .i64 256] L10 = some (.ret (.tuple #[]) L11) := z1
    rw [z1']
    simp only [lbind_ret]
    have y4 := y1.step z3 z2
    have ht1 := tabBytes_len_le (lens1 ts)
    have ht2 := tabBytes_len_le (lens2 ts)
    rw [lens1_length] at ht1
    rw [lens2_length] at ht2
    rw [decide_eq_true (by
      show (((strOf (tabBytes (lens1 ts))).size + (strOf (tabBytes (lens2 ts))).size : Nat) : Int) ≤ maxI
      rw [strOf_size, strOf_size]; unfold maxI; omega), when_true]
    have c0 : cell L11 ⟨L7.length, 0, none⟩ = some (.pointer (some ⟨L6.length, 0, none⟩)) := by rw [cell_of y4.at_r]; rfl
    obtain ⟨vs, v1, v2⟩ := bytes_ok (k := kk + 1) y4.bw (by omega)
    simp only [c0, Option.bind_some, asP_pointer, obind_some, v2, lbind_ret, asS_string]
    have hpk : vs = packOf (packBits (lens1 ts) (lens2 ts) ts) := by
      refine v1.unique ?_
      have := packOf_ok (packBits (lens1 ts) (lens2 ts) ts)
      rw [List.drop_zero, List.nil_append]
      exact this
    have hfin : strOf (tabBytes (lens1 ts)) ++ strOf (tabBytes (lens2 ts)) ++ strOf vs = strOf (packB ts) := by
      rw [hpk, strOf_app, strOf_app, packB, List.append_assoc]
    have hfin' : strOf (tabBytes (lengthsOf (freq1 ts))) ++ strOf (tabBytes (lengthsOf (freq2 ts))) ++ strOf vs = strOf (packB ts) := hfin
    rw [decide_eq_true (by
      rw [strOf_app, strOf_size, strOf_size, hpk, packOf_length, List.length_append]
      show ((((tabBytes (lens1 ts)).length + (tabBytes (lens2 ts)).length + ((packBits (lens1 ts) (lens2 ts) ts).length + 7) / 8 : Nat)) : Int) ≤ maxI
      unfold maxI; omega), when_true, hfin']
    refine ⟨L11, ?_, rfl⟩
    have sE : Step [] L6 [] L11 := (sD.trans (x1.trans (y3.trans z3))).less fun i hi => by cases hi
    exact sC.trans sE
end Go.Proofs.Ytflhogapjmdkaaa.X
end

section
set_option maxRecDepth 100000
set_option linter.unusedVariables false
namespace Go.Proofs.Ytflhogapjmdkaaa.X
open Go Go.Rlm
def packStr (ts : List Tok) : ByteArray := if ts.all tokShape then strOf (packB ts) else ⟨#[]⟩
def packErr (ts : List Tok) : Int := if ts.all tokShape then 0 else 4
theorem pack_ok {k : Nat} {l : Sl} {ts : List Tok} {A : List Nat} {L : LHeap} (hl : RT L l ts A) (hf : Fit ts) (hk : ts.length + 1000 ≤ k) :
    ∃ L', f14 k l L = some (.ret (.tuple #[.string (packStr ts), .int .i64 (packErr ts)]) L') ∧ Step [] L [] L' := by
  obtain ⟨k, rfl⟩ : ∃ k', k = k' + 3 := ⟨k - 3, by omega⟩
  rw [f14_eq]
  have st1 : Step [] L [L.length] (L ++ [LBlk.cells [Value.slice l.a l.n l.c] 22 false 0]) := .new _ _ _
  have g1 : (L ++ [LBlk.cells [Value.slice l.a l.n l.c] 22 false 0])[L.length]? = some (.cells [Value.slice l.a l.n l.c] 22 false 0) := get_new
  have hlt1 : L.length < (L ++ [LBlk.cells [Value.slice l.a l.n l.c] 22 false 0]).length := by simp
  generalize L ++ [LBlk.cells [Value.slice l.a l.n l.c] 22 false 0] = L1 at *
  have st2 : Step [L.length] L1 [L1.length, L.length] (L1 ++ [LBlk.cells [Value.string (ByteArray.mk #[])] 9 false 0]) := .new _ _ _
  have g2 : (L1 ++ [LBlk.cells [Value.string (ByteArray.mk #[])] 9 false 0])[L1.length]? = some (.cells [Value.string (ByteArray.mk #[])] 9 false 0) := get_new
  have g1' : (L1 ++ [LBlk.cells [Value.string (ByteArray.mk #[])] 9 false 0])[L.length]? = some (.cells [Value.slice l.a l.n l.c] 22 false 0) := by rw [get_push hlt1, g1]
  have hlt2 : L1.length < (L1 ++ [LBlk.cells [Value.string (ByteArray.mk #[])] 9 false 0]).length := by simp
  generalize L1 ++ [LBlk.cells [Value.string (ByteArray.mk #[])] 9 false 0] = L2 at *
  have st3 : Step [L1.length, L.length] L2 [L2.length, L1.length, L.length] (L2 ++ [LBlk.cells [Value.int IntKind.i64 0] 24 false 0]) := .new _ _ _
  have q1 : (L2 ++ [LBlk.cells [Value.int IntKind.i64 0] 24 false 0])[L.length]? = some (.cells [Value.slice l.a l.n l.c] 22 false 0) := by rw [get_push (by omega), g1']
  have q2 : (L2 ++ [LBlk.cells [Value.int IntKind.i64 0] 24 false 0])[L1.length]? = some (.cells [Value.string (ByteArray.mk #[])] 9 false 0) := by rw [get_push hlt2, g2]
  have q3 : (L2 ++ [LBlk.cells [Value.int IntKind.i64 0] 24 false 0])[L2.length]? = some (.cells [Value.int IntKind.i64 0] 24 false 0) := get_new
  have hlt3 : L2.length < (L2 ++ [LBlk.cells [Value.int IntKind.i64 0] 24 false 0]).length := by simp
  have sA := st1.trans (st2.trans st3)
  have hk2 : ∀ M : LHeap, f26 (k + 1) L.length L1.length (L2 ++ [LBlk.cells [Value.int IntKind.i64 0] 24 false 0]) = some (.ret (.tuple #[]) M) → M[L2.length]? = some (.cells [Value.int IntKind.i64 0] 24 false 0) →
      f25 (k + 2) (.func (.func 26) #[] #[.pointer (some ⟨L.length, 0, none⟩), .pointer (some ⟨L1.length, 0, none⟩)]) L2 = some (.ret (.int .i64 0) (M.set L2.length (.cells [.int .i64 0] 24 false 0))) := fun M h1 h2 => caught_ret (k := k + 1) (v := .tuple #[]) h1 h2
  have hp2 : ∀ M : LHeap, f26 (k + 1) L.length L1.length (L2 ++ [LBlk.cells [Value.int IntKind.i64 0] 24 false 0]) = some (.pan (.iface 24 (.int .i64 4)) M) → M[L2.length]? = some (.cells [Value.int IntKind.i64 0] 24 false 0) →
      f25 (k + 2) (.func (.func 26) #[] #[.pointer (some ⟨L.length, 0, none⟩), .pointer (some ⟨L1.length, 0, none⟩)]) L2 = some (.ret (.int .i64 4) (M.set L2.length (.cells [.int .i64 4] 24 false 0))) := fun M h1 h2 => caught_pan (k := k + 1) (n := 4) h1 h2
  generalize hL3 : L2 ++ [LBlk.cells [Value.int IntKind.i64 0] 24 false 0] = L3 at *
  have hlw := hl.within
  have hl3 : RT L3 l ts A := hl.mono fun i hi => sA.keep i (hlw i hi) (by simp)
  obtain ⟨L4, a1, a2⟩ := packed_ok (k := k) hl3 hf (by omega)
  have c0 : cell L3 ⟨L.length, 0, none⟩ = some (.slice l.a l.n l.c) := by rw [cell_of q1]; rfl
  have p2 : L4[L1.length]? = some (.cells [Value.string (ByteArray.mk #[])] 9 false 0) := by rw [a1.keep _ (by omega) (by simp), q2]
  have p3 : L4[L2.length]? = some (.cells [Value.int IntKind.i64 0] 24 false 0) := by rw [a1.keep _ (by omega) (by simp), q3]
  have sB : Step [] L [L2.length, L1.length, L.length] L4 := sA.trans ((a1.mono (G := [L2.length, L1.length, L.length]) (by simp)).less fun i hi => .inr hi)
  have hw : ∀ (b : Nat) (x : LBlk) (M : LHeap), Step [] L [L2.length, L1.length, L.length] M → b ∈ [L2.length, L1.length, L.length] → Step [] L [L2.length, L1.length, L.length] (M.set b x) := fun b x M h hb => h.trans (.set _ hb)
  have e26 : f26 (k + 1) L.length L1.length L3 = lbind (f27 k l L3) fun v3 L4 => obind (asS v3) fun s5 => obind (stores L4 (Addr.mk L1.length 0 none) [Value.string s5]) fun L6 => some (LR.ret (Value.tuple #[]) L6) := by
    rw [f26_eq]
    simp only [c0, Option.bind_some, asSl_slice, obind_some]
  cases hall : ts.all tokShape with
  | true =>
    rw [hall, if_pos rfl] at a2
    rw [a2] at e26
    simp only [lbind_ret, asS_string, obind_some] at e26
    rw [stores_of p2 (by simp)] at e26
    simp only [setAll, List.set_cons_zero, obind_some] at e26
    have p2' : (L4.set L1.length (.cells [Value.string (strOf (packB ts))] 9 false 0))[L1.length]? = some (.cells [Value.string (strOf (packB ts))] 9 false 0) := get_set_self p2
    have p3' : (L4.set L1.length (.cells [Value.string (strOf (packB ts))] 9 false 0))[L2.length]? = some (.cells [Value.int IntKind.i64 0] 24 false 0) := by rw [get_set_ne (by omega), p3]
    have sC := hw L1.length (.cells [Value.string (strOf (packB ts))] 9 false 0) _ sB (by simp)
    generalize L4.set L1.length (.cells [Value.string (strOf (packB ts))] 9 false 0) = L5 at *
    rw [hk2 _ e26 p3']
    simp only [lbind_ret, asI_int, obind_some]
    have p2'' : (L5.set L2.length (.cells [Value.int IntKind.i64 0] 24 false 0))[L1.length]? = some (.cells [Value.string (strOf (packB ts))] 9 false 0) := by rw [get_set_ne (by omega), p2']
    have sD := hw L2.length (.cells [Value.int IntKind.i64 0] 24 false 0) _ sC (by simp)
    generalize L5.set L2.length (.cells [Value.int IntKind.i64 0] 24 false 0) = L6 at *
    have c1 : cell L6 ⟨L1.length, 0, none⟩ = some (.string (strOf (packB ts))) := by rw [cell_of p2'']; rfl
    rw [c1]
    simp only [Option.bind_some, asS_string, obind_some]
    rw [stores_of p2'' (by simp)]
    simp only [setAll, List.set_cons_zero, obind_some]
    have c2 : cell (L6.set L1.length (.cells [Value.string (strOf (packB ts))] 9 false 0)) ⟨L1.length, 0, none⟩ = some (.string (strOf (packB ts))) := by rw [cell_of (get_set_self p2'')]; rfl
    rw [c2]
    refine ⟨_, by unfold packStr packErr; rw [hall]; rfl, (hw _ _ _ sD (by simp)).less fun i hi => by cases hi⟩
  | false =>
    rw [hall, if_neg (by decide)] at a2
    rw [a2] at e26
    simp only [lbind_pan] at e26
    rw [hp2 _ e26 p3]
    simp only [lbind_ret, asI_int, obind_some]
    have p2'' : (L4.set L2.length (.cells [Value.int IntKind.i64 4] 24 false 0))[L1.length]? = some (.cells [Value.string (ByteArray.mk #[])] 9 false 0) := by rw [get_set_ne (by omega), p2]
    have sD := hw L2.length (.cells [Value.int IntKind.i64 4] 24 false 0) _ sB (by simp)
    generalize L4.set L2.length (.cells [Value.int IntKind.i64 4] 24 false 0) = L6 at *
    have c1 : cell L6 ⟨L1.length, 0, none⟩ = some (.string (ByteArray.mk #[])) := by rw [cell_of p2'']; rfl
    rw [c1]
    simp only [Option.bind_some, asS_string, obind_some]
    rw [stores_of p2'' (by simp)]
    simp only [setAll, List.set_cons_zero, obind_some]
    have c2 : cell (L6.set L1.length (.cells [Value.string (ByteArray.mk #[])] 9 false 0)) ⟨L1.length, 0, none⟩ = some (.string (ByteArray.mk #[])) := by rw [cell_of (get_set_self p2'')]; rfl
    rw [c2]
    refine ⟨_, by unfold packStr packErr; rw [hall]; rfl, (hw _ _ _ sD (by simp)).less fun i hi => by cases hi⟩
structure DS (L : LHeap) (N d x b1 b2 : Nat) (z1 z2 : List Int) (r : List Bool) : Prop where
  at_d : L[d]? = some (.cells [.pointer (some ⟨x, 0, none⟩), .pointer (some ⟨b1, 0, none⟩), .pointer (some ⟨b2, 0, none⟩)] 65 false 0)
  br : BR L x r
  c1 : ∃ F, CO L b1 z1 F ∧ x ∉ F ∧ ∀ i ∈ F, i < N
  c2 : ∃ F, CO L b2 z2 F ∧ x ∉ F ∧ ∀ i ∈ F, i < N
  dN : d < N
  xN : x < N
  ne : d ≠ x
  NL : N ≤ L.length
theorem DS.step {L L' : LHeap} {N d x b1 b2 : Nat} {z1 z2 : List Int} {r r' : List Bool} (h : DS L N d x b1 b2 z1 z2 r) (hs : Step [x] L [x] L') (hb : BR L' x r') : DS L' N d x b1 b2 z1 z2 r' := by
  obtain ⟨h1, h2, ⟨F1, f1, f2, f3⟩, ⟨F2, g1, g2, g3⟩, h5, h6, h7, h8⟩ := h
  have k : ∀ i, i < L.length → i ≠ x → L'[i]? = L[i]? := fun i hi hx => hs.keep i hi (by simpa using hx)
  refine ⟨by rw [k d (by omega) h7, h1], hb, ⟨F1, f1.mono (fun i hi => k i (by have := f3 i hi; omega) fun e => f2 (e ▸ hi)) hs.len, f2, f3⟩, ⟨F2, g1.mono (fun i hi => k i (by have := g3 i hi; omega) fun e => g2 (e ▸ hi)) hs.len, g2, g3⟩, h5, h6, h7, Nat.le_trans h8 hs.len⟩
theorem DS.frame {L L' : LHeap} {N d x b1 b2 : Nat} {z1 z2 : List Int} {r : List Bool} (h : DS L N d x b1 b2 z1 z2 r) (hk : ∀ i, i < N → L'[i]? = L[i]?) (hl : L.length ≤ L'.length) : DS L' N d x b1 b2 z1 z2 r := by
  obtain ⟨h1, h2, ⟨F1, f1, f2, f3⟩, ⟨F2, g1, g2, g3⟩, h5, h6, h7, h8⟩ := h
  exact ⟨by rw [hk d h5, h1], h2.mono (hk x h6), ⟨F1, f1.mono (fun i hi => hk i (f3 i hi)) hl, f2, f3⟩, ⟨F2, g1.mono (fun i hi => hk i (g3 i hi)) hl, g2, g3⟩, h5, h6, h7, Nat.le_trans h8 hl⟩
theorem or_i64 {m v : Nat} (hm : m ≤ 40) (hv : v < 2 ^ m) : bitop .or .i64 (IntKind.wrap IntKind.i64 (1 * 2 ^ min (Int.toNat ((m : Nat) : Int)) 64)) (IntKind.wrap IntKind.i64 (v : Int)) = ((2 ^ m + v : Nat) : Int) := by
  have hp : 2 ^ m ≤ 2 ^ 40 := Nat.pow_le_pow_right (by omega) hm
  rw [show min (Int.toNat ((m : Nat) : Int)) 64 = m by simp; omega, Int.one_mul]
  have e : (2 : Int) ^ m = ((2 ^ m : Nat) : Int) := by push_cast; rfl
  rw [e, wI64 (by omega) (by omega), wI64 (by omega) (by omega)]
  simp only [bitop, BitVec.ofInt_natCast, BitVec.toNat_or, BitVec.toNat_ofNat]
  rw [Nat.mod_eq_of_lt (by simp only [IntKind.bits]; omega), Nat.mod_eq_of_lt (by simp only [IntKind.bits]; omega)]
  have := Nat.two_pow_add_eq_or_of_lt (i := m) hv 1
  rw [Nat.mul_one] at this
  rw [← this, wI64 (by omega) (by omega)]
theorem number_ok {k N d x b1 b2 size : Nat} {z1 z2 : List Int} {r : List Bool} {L : LHeap} (h : DS L N d x b1 b2 z1 z2 r) (hs : size ≤ 32) (hk : 60 ≤ k) :
    ∃ L' v e r', f65 k (some ⟨d, 0, none⟩) (size : Int) L = some (.ret (.tuple #[.int .i64 v, .int .i64 e]) L') ∧ Step [x] L [x] L' ∧ DS L' N d x b1 b2 z1 z2 r' ∧
      (match readNum size r with | none => e ≠ 0 | some (n, r'') => e = 0 ∧ v = (n : Int) ∧ r' = r'' ∧ n < 2 ^ 33) := by
  obtain ⟨k, rfl⟩ : ∃ k', k = k' + 1 := ⟨k - 1, by omega⟩
  rw [f65_eq]
  by_cases h2 : size < 2
  · rw [decide_eq_true (by omega), lif_true]
    refine ⟨L, _, _, r, rfl, .refl _ _, h, ?_⟩
    unfold readNum
    rw [if_pos h2]
    exact ⟨rfl, rfl, rfl, by omega⟩
  · have c0 : cell L ((Addr.mk d 0 none).add 0) = some (.pointer (some ⟨x, 0, none⟩)) := by rw [mk_add, cell_of h.at_d]; rfl
    rw [decide_eq_false (by omega), lif_false]
    simp only [obind_some]
    rw [c0]
    simp only [Option.bind_some, asP_pointer, obind_some]
    rw [wI64 (by omega) (by omega), show (size : Int) - 1 = ((size - 1 : Nat) : Int) by omega]
    obtain ⟨L', a1, a2, a3⟩ := take_ok (k := k) (n := ((size - 1 : Nat) : Int)) h.br (by omega)
    rw [a1]
    unfold taken
    simp only [lbind_ret, tupL_tuple, uncons_cons, nilL_nil, asI_int, obind_some]
    rw [decide_eq_false (by omega), Bool.not_false, when_true]
    refine ⟨L', _, _, _, rfl, a3, h.step a3 a2, ?_⟩
    unfold readNum
    rw [if_neg h2]
    by_cases h3 : r.length < size - 1
    · rw [if_pos h3]
      unfold takeErr
      rw [if_neg (by omega), if_pos (by omega)]
      show (4 : Int) ≠ 0
      decide
    · rw [if_neg h3]
      have hc : takeCnt r ((size - 1 : Nat) : Int) = size - 1 := by
        unfold takeCnt
        rw [if_neg (by omega), if_neg (by omega), Int.toNat_natCast]
      have hlen : (r.take (size - 1)).length = size - 1 := by simp; omega
      have hlt := bitNum_lt (r.take (size - 1))
      rw [hlen] at hlt
      have hp : 2 ^ (size - 1) ≤ 2 ^ 31 := Nat.pow_le_pow_right (by omega) (by omega)
      refine ⟨?_, ?_, by rw [hc], by omega⟩
      · unfold takeErr
        rw [if_neg (by omega), if_neg (by omega)]
      · unfold takeVal
        rw [hc]
        exact or_i64 (by omega) hlt
theorem long_ok {k N d x b1 b2 : Nat} {z1 z2 : List Int} {r : List Bool} {L : LHeap} (h : DS L N d x b1 b2 z1 z2 r) (m2 : may z2 = true) (h9 : z2.length = 9) (hk : 70 ≤ k) :
    ∃ L' v e r', f66 k (some ⟨d, 0, none⟩) L = some (.ret (.tuple #[.int .i64 v, .int .i64 e]) L') ∧ Step [x] L [x] L' ∧ DS L' N d x b1 b2 z1 z2 r' ∧
      (match readLen z2 r with | none => e ≠ 0 | some (l, r'') => e = 0 ∧ v = l ∧ r' = r'') := by
  obtain ⟨k, rfl⟩ : ∃ k', k = k' + 1 := ⟨k - 1, by omega⟩
  have c0 : cell L ((Addr.mk d 0 none).add 0) = some (.pointer (some ⟨x, 0, none⟩)) := by rw [mk_add, cell_of h.at_d]; rfl
  have c2 : cell L ((Addr.mk d 0 none).add 2) = some (.pointer (some ⟨b2, 0, none⟩)) := by rw [mk_add, cell_of h.at_d]; rfl
  obtain ⟨F, f1, f2, f3⟩ := h.c2
  obtain ⟨L1, a1, a2, a3⟩ := ctake_ok (k := k) f1 m2 h.br f2 (by omega)
  rw [f66_eq]
  simp only [obind_some]
  rw [c2, c0]
  simp only [Option.bind_some, asP_pointer, obind_some]
  rw [a1]
  simp only [lbindR_ret, tupL_tuple, uncons_cons, nilL_nil, asI_int, obind_some]
  have h1 := h.step a3 a2
  unfold readLen
  match hx : readSym z2 r with
  | (none, r1) =>
    rw [hx] at h1
    exact ⟨L1, _, _, _, rfl, a3, h1, by simp [decErr]⟩
  | (some i, r1) =>
    rw [hx] at h1
    obtain ⟨g1, g2, g3⟩ := readSym_some hx
    simp only [decErr, decSym]
    rw [show ((0 : Int) != 0) = false from rfl, lif_false]
    obtain ⟨L2, v, e, r2, d1, d2, d3, d4⟩ := number_ok (k := k) (size := i) h1 (by omega) (by omega)
    rw [d1]
    simp only [lbind_ret, tupL_tuple, uncons_cons, nilL_nil, asI_int, obind_some]
    refine ⟨L2, _, _, r2, rfl, a3.trans d2, d3, ?_⟩
    match hy : readNum i r1 with
    | none => rw [hy] at d4; exact d4
    | some (n, r3) =>
      rw [hy] at d4
      obtain ⟨e1, e2, e3, e4⟩ := d4
      refine ⟨e1, ?_, e3⟩
      rw [e2, wI64 (by omega) (by omega)]
end Go.Proofs.Ytflhogapjmdkaaa.X
end

section
set_option maxRecDepth 100000
set_option linter.unusedVariables false
namespace Go.Proofs.Ytflhogapjmdkaaa.X
open Go Go.Rlm
theorem stores_same {L : LHeap} {b : Nat} {t : Tok} (h : L[b]? = some (.cells (tokL t) 29 false 0)) :
    stores L ⟨b, 0, none⟩ [.int .u8 t.k, .int .u8 t.b, .int .i64 t.l, .int .i64 t.d, .int .i64 t.s] = some L := by
  rw [stores_of h (by simp [tokL]), setAll_all (by rfl)]
  congr 1
  apply List.ext_getElem?
  intro i
  by_cases hi : b = i
  · subst hi; rw [get_set_self h, h]; rfl
  · rw [get_set_ne hi]
/-- The token at b is read, and answered. -/
theorem tok_fin {L : LHeap} {b : Nat} {t : Tok} {x y : Value} (h : L[b]? = some (.cells (tokL t) 29 false 0)) :
    (obind (Option.bind (cell L (Addr.add (Addr.mk b 0 none) 0)) (asI IntKind.u8)) fun n20 =>
      obind (Option.bind (cell L (Addr.add (Addr.mk b 0 none) 1)) (asI IntKind.u8)) fun n21 =>
      obind (Option.bind (cell L (Addr.add (Addr.mk b 0 none) 2)) (asI IntKind.i64)) fun n22 =>
      obind (Option.bind (cell L (Addr.add (Addr.mk b 0 none) 3)) (asI IntKind.i64)) fun n23 =>
      obind (Option.bind (cell L (Addr.add (Addr.mk b 0 none) 4)) (asI IntKind.i64)) fun n24 =>
      some (LR.ret (Value.tuple #[Value.agg #[Value.int IntKind.u8 n20, Value.int IntKind.u8 n21, Value.int IntKind.i64 n22, Value.int IntKind.i64 n23, Value.int IntKind.i64 n24], x, y]) L)) =
    some (.ret (.tuple #[.agg #[.int .u8 t.k, .int .u8 t.b, .int .i64 t.l, .int .i64 t.d, .int .i64 t.s], x, y]) L) := by
  obtain ⟨e0, e1, e2, e3, e4⟩ := tok_cell h
  rw [e0]; simp only [Option.bind_some, asI_int, obind_some]
  rw [e1]; simp only [Option.bind_some, asI_int, obind_some]
  rw [e2]; simp only [Option.bind_some, asI_int, obind_some]
  rw [e3]; simp only [Option.bind_some, asI_int, obind_some]
  rw [e4]; simp only [Option.bind_some, asI_int, obind_some]
theorem tok_end {L : LHeap} {b : Nat} {t : Tok} {x y : Value} (h : L[b]? = some (.cells (tokL t) 29 false 0)) :
    (obind (Option.bind (cell L (Addr.add (Addr.mk b 0 none) 0)) (asI IntKind.u8)) fun n14 =>
      obind (Option.bind (cell L (Addr.add (Addr.mk b 0 none) 1)) (asI IntKind.u8)) fun n15 =>
      obind (Option.bind (cell L (Addr.add (Addr.mk b 0 none) 2)) (asI IntKind.i64)) fun n16 =>
      obind (Option.bind (cell L (Addr.add (Addr.mk b 0 none) 3)) (asI IntKind.i64)) fun n17 =>
      obind (Option.bind (cell L (Addr.add (Addr.mk b 0 none) 4)) (asI IntKind.i64)) fun n18 =>
      obind (stores L (Addr.mk b 0 none) [Value.int IntKind.u8 n14, Value.int IntKind.u8 n15, Value.int IntKind.i64 n16, Value.int IntKind.i64 n17, Value.int IntKind.i64 n18]) fun L19 =>
      obind (Option.bind (cell L19 (Addr.add (Addr.mk b 0 none) 0)) (asI IntKind.u8)) fun n20 =>
      obind (Option.bind (cell L19 (Addr.add (Addr.mk b 0 none) 1)) (asI IntKind.u8)) fun n21 =>
      obind (Option.bind (cell L19 (Addr.add (Addr.mk b 0 none) 2)) (asI IntKind.i64)) fun n22 =>
      obind (Option.bind (cell L19 (Addr.add (Addr.mk b 0 none) 3)) (asI IntKind.i64)) fun n23 =>
      obind (Option.bind (cell L19 (Addr.add (Addr.mk b 0 none) 4)) (asI IntKind.i64)) fun n24 =>
      some (LR.ret (Value.tuple #[Value.agg #[Value.int IntKind.u8 n20, Value.int IntKind.u8 n21, Value.int IntKind.i64 n22, Value.int IntKind.i64 n23, Value.int IntKind.i64 n24], x, y]) L19)) =
    some (.ret (.tuple #[.agg #[.int .u8 t.k, .int .u8 t.b, .int .i64 t.l, .int .i64 t.d, .int .i64 t.s], x, y]) L) := by
  obtain ⟨e0, e1, e2, e3, e4⟩ := tok_cell h
  rw [e0]; simp only [Option.bind_some, asI_int, obind_some]
  rw [e1]; simp only [Option.bind_some, asI_int, obind_some]
  rw [e2]; simp only [Option.bind_some, asI_int, obind_some]
  rw [e3]; simp only [Option.bind_some, asI_int, obind_some]
  rw [e4]; simp only [Option.bind_some, asI_int, obind_some]
  rw [stores_same h]
  simp only [obind_some]
  exact tok_fin h
theorem stores_tok {L : LHeap} {b : Nat} {t : Tok} (h : L[b]? = some (.cells (tokL t) 29 false 0)) :
    (∀ n, stores L (Addr.add (Addr.mk b 0 none) 0) [.int .u8 n] = some (L.set b (.cells (tokL { t with k := n }) 29 false 0))) ∧
    (∀ n, stores L (Addr.add (Addr.mk b 0 none) 2) [.int .i64 n] = some (L.set b (.cells (tokL { t with l := n }) 29 false 0))) ∧
    (∀ n, stores L (Addr.add (Addr.mk b 0 none) 3) [.int .i64 n] = some (L.set b (.cells (tokL { t with d := n }) 29 false 0))) ∧
    (∀ u : Tok, stores L (Addr.mk b 0 none) [.int .u8 u.k, .int .u8 u.b, .int .i64 u.l, .int .i64 u.d, .int .i64 u.s] = some (L.set b (.cells (tokL u) 29 false 0))) := by
  refine ⟨fun n => ?_, fun n => ?_, fun n => ?_, fun u => ?_⟩
  · rw [mk_add, stores_of h (by simp [tokL])]; rfl
  · rw [mk_add, stores_of h (by simp [tokL])]; rfl
  · rw [mk_add, stores_of h (by simp [tokL])]; rfl
  · rw [stores_of h (by simp [tokL])]; rfl
theorem Step.wide {F G : List Nat} {L L' : LHeap} (h : Step F L F L') (hG : ∀ i ∈ F, i ∈ G) : Step G L G L' := (h.mono hG).less fun _ hi => .inr hi
theorem next_ok {k N d x b1 b2 : Nat} {z1 z2 : List Int} {r : List Bool} {L : LHeap} (h : DS L N d x b1 b2 z1 z2 r) (m1 : may z1 = true) (m2 : may z2 = true) (h277 : z1.length = 277) (h9 : z2.length = 9) (hk : 90 ≤ k) :
    ∃ L' t b e r', f36 k (some ⟨d, 0, none⟩) L = some (.ret (.tuple #[.agg #[.int .u8 t.k, .int .u8 t.b, .int .i64 t.l, .int .i64 t.d, .int .i64 t.s], .bool b, .int .i64 e]) L') ∧ Step [x] L [x] L' ∧ DS L' N d x b1 b2 z1 z2 r' ∧
      (match readTok z1 z2 r with | none => e ≠ 0 | some (none, r'') => e = 0 ∧ b = false ∧ r' = r'' | some (some u, r'') => e = 0 ∧ b = true ∧ t = u ∧ r' = r'') := by
  obtain ⟨k, rfl⟩ : ∃ k', k = k' + 1 := ⟨k - 1, by omega⟩
  rw [f36_eq]
  have hz : [LBlk.cells [Value.int IntKind.u8 0, Value.int IntKind.u8 0, Value.int IntKind.i64 0, Value.int IntKind.i64 0, Value.int IntKind.i64 0] 29 false 0] = [LBlk.cells (tokL ⟨0, 0, 0, 0, 0⟩) 29 false 0] := rfl
  rw [hz]
  have hNL := h.NL
  have s0 : Step [x] L [L.length, x] (L ++ [LBlk.cells (tokL ⟨0, 0, 0, 0, 0⟩) 29 false 0]) := .new _ _ _
  have h0 : DS (L ++ [LBlk.cells (tokL ⟨0, 0, 0, 0, 0⟩) 29 false 0]) N d x b1 b2 z1 z2 r := h.frame (fun i hi => get_push (by omega)) (by simp)
  have g0 : (L ++ [LBlk.cells (tokL ⟨0, 0, 0, 0, 0⟩) 29 false 0])[L.length]? = some (.cells (tokL ⟨0, 0, 0, 0, 0⟩) 29 false 0) := get_new
  generalize hc : L.length = c at *
  have hcx : c ≠ x := by have := h.xN; omega
  generalize L ++ [LBlk.cells (tokL ⟨0, 0, 0, 0, 0⟩) 29 false 0] = L0 at *
  have c0 : cell L0 ((Addr.mk d 0 none).add 0) = some (.pointer (some ⟨x, 0, none⟩)) := by rw [mk_add, cell_of h0.at_d]; rfl
  have c1 : cell L0 ((Addr.mk d 0 none).add 1) = some (.pointer (some ⟨b1, 0, none⟩)) := by rw [mk_add, cell_of h0.at_d]; rfl
  obtain ⟨F, f1, f2, f3⟩ := h0.c1
  obtain ⟨L1, a1, a2, a3⟩ := ctake_ok (k := k) f1 m1 h0.br f2 (by omega)
  simp only [obind_some]
  rw [c1, c0]
  simp only [Option.bind_some, asP_pointer, obind_some]
  rw [a1]
  simp only [lbindR_ret, tupL_tuple, uncons_cons, nilL_nil, asI_int, obind_some]
  have hcL : c < L0.length := get_lt g0
  have keep : ∀ {M M' : LHeap} {v : LBlk}, Step [x] M [x] M' → M[c]? = some v → M'[c]? = some v := fun {M M' v} hs hv => by
    rw [hs.keep c (get_lt hv) (by simpa using hcx), hv]
  have setS : ∀ {M : LHeap} {v : LBlk}, Step [c, x] M [c, x] (M.set c v) := fun {M v} => .set _ (by simp)
  have setD : ∀ {M : LHeap} {v : LBlk} {q : List Bool}, DS M N d x b1 b2 z1 z2 q → DS (M.set c v) N d x b1 b2 z1 z2 q := fun {M v q} hd => hd.frame (fun i hi => get_set_ne (by omega)) (by simp)
  have wide : ∀ {M M' : LHeap}, Step [x] M [x] M' → Step [c, x] M [c, x] M' := fun {M M'} hs => Step.wide hs (by simp)
  have out : ∀ {M : LHeap}, Step [x] L [c, x] M → Step [x] L [x] M := fun {M} hs => hs.less fun i hi => .inr hi
  have h1 := h0.step a3 a2
  have g1 := keep a3 g0
  have s1 : Step [x] L [c, x] L1 := s0.trans (wide a3)
  unfold readTok
  generalize hA : decSym (readSym z1 r).1 = A
  generalize hE : decErr (readSym z1 r).1 = E
  match hx : readSym z1 r with
  | (none, r1) =>
    rw [hx] at h1 hE
    have hE : E = 4 := by rw [← hE]; rfl
    rw [hE, show ((4 : Int) != 0) = true from rfl, lif_true]
    exact ⟨L1, _, _, _, r1, tok_end g1, out s1, h1, show (4 : Int) ≠ 0 by decide⟩
  | (some q, r1) =>
    rw [hx] at h1
    obtain ⟨u1, u2, u3⟩ := readSym_some hx
    rw [hx] at hE hA
    have hE : E = 0 := by rw [← hE]; rfl
    have hA : A = (q : Int) := by rw [← hA]; rfl
    subst hA
    rw [hE, show ((0 : Int) != 0) = false from rfl, lif_false]
    simp only
    by_cases q256 : q = 256
    · rw [if_pos q256, show ((q : Int) == 256) = true by simp; omega, lif_true]
      exact ⟨L1, _, _, _, r1, tok_end g1, out s1, h1, rfl, rfl, rfl⟩
    rw [if_neg q256, show ((q : Int) == 256) = false by simp; omega, lif_false]
    by_cases qlt : q < 256
    · rw [if_pos qlt, decide_eq_true (by omega), lif_true, wU8 (by omega) (by omega)]
      have e := (stores_tok g1).2.2.2 ⟨1, (q : Int), 0, 0, 0⟩
      simp only at e
      rw [e]
      simp only [obind_some]
      exact ⟨_, _, _, _, r1, tok_fin (get_set_self g1), out (s1.trans setS), setD h1, rfl, rfl, rfl, rfl⟩
    rw [if_neg qlt, decide_eq_false (by omega), lif_false]
    by_cases q260 : q ≤ 260
    · rw [if_pos q260, decide_eq_true (by omega), lif_true, wI64 (by omega) (by omega)]
      have e := (stores_tok g1).2.2.2 ⟨3, 0, 0, 0, (q : Int) - 257⟩
      simp only at e
      rw [e]
      simp only [obind_some]
      have g2 := get_set_self (x := .cells (tokL ⟨3, 0, 0, 0, (q : Int) - 257⟩) 29 false 0) g1
      have h2 : DS (L1.set c (.cells (tokL ⟨3, 0, 0, 0, (q : Int) - 257⟩) 29 false 0)) N d x b1 b2 z1 z2 r1 := setD h1
      have s2 : Step [x] L [c, x] (L1.set c (.cells (tokL ⟨3, 0, 0, 0, (q : Int) - 257⟩) 29 false 0)) := s1.trans setS
      generalize L1.set c (.cells (tokL ⟨3, 0, 0, 0, (q : Int) - 257⟩) 29 false 0) = L2 at *
      obtain ⟨L3, v, e3, r2, d1, d2, d3, d4⟩ := long_ok (k := k) h2 m2 h9 (by omega)
      rw [d1]
      simp only [lbind_ret, tupL_tuple, uncons_cons, nilL_nil, asI_int, obind_some]
      have g3 := keep d2 g2
      rw [(stores_tok g3).2.1]
      simp only [obind_some]
      refine ⟨_, _, _, _, r2, tok_end (get_set_self g3), out ((s2.trans (wide d2)).trans setS), setD d3, ?_⟩
      match hy : readLen z2 r1 with
      | none => rw [hy] at d4; exact d4
      | some (l, r3) =>
        rw [hy] at d4
        obtain ⟨w1, w2, w3⟩ := d4
        exact ⟨w1, rfl, by rw [w2], w3⟩
    · rw [if_neg q260, decide_eq_false (by omega), lif_false]
      rw [(stores_tok g1).1]
      simp only [obind_some]
      have g2 := get_set_self (x := .cells (tokL { (⟨0, 0, 0, 0, 0⟩ : Tok) with k := 2 }) 29 false 0) g1
      have h2 : DS (L1.set c (.cells (tokL { (⟨0, 0, 0, 0, 0⟩ : Tok) with k := 2 }) 29 false 0)) N d x b1 b2 z1 z2 r1 := setD h1
      have s2 : Step [x] L [c, x] (L1.set c (.cells (tokL { (⟨0, 0, 0, 0, 0⟩ : Tok) with k := 2 }) 29 false 0)) := s1.trans setS
      generalize L1.set c (.cells (tokL { (⟨0, 0, 0, 0, 0⟩ : Tok) with k := 2 }) 29 false 0) = L2 at *
      rw [wI64 (by omega) (by omega), show (q : Int) - 260 = ((q - 260 : Nat) : Int) by omega]
      have hq16 : q - 260 ≤ 32 := by omega
      generalize q - 260 = qq at *
      obtain ⟨L3, v, e3, r2, d1, d2, d3, d4⟩ := number_ok (k := k) (size := qq) h2 hq16 (by omega)
      rw [d1]
      simp only [lbind_ret, tupL_tuple, uncons_cons, nilL_nil, asI_int, obind_some]
      have g3 := keep d2 g2
      rw [(stores_tok g3).2.2.1]
      simp only [obind_some]
      have g4 := get_set_self (x := .cells (tokL ({ ({ (⟨0, 0, 0, 0, 0⟩ : Tok) with k := 2 } : Tok) with d := v } : Tok)) 29 false 0) g3
      have h4 : DS (L3.set c (.cells (tokL ({ ({ (⟨0, 0, 0, 0, 0⟩ : Tok) with k := 2 } : Tok) with d := v } : Tok)) 29 false 0)) N d x b1 b2 z1 z2 r2 := setD d3
      have s4 : Step [x] L [c, x] (L3.set c (.cells (tokL ({ ({ (⟨0, 0, 0, 0, 0⟩ : Tok) with k := 2 } : Tok) with d := v } : Tok)) 29 false 0)) := (s2.trans (wide d2)).trans setS
      generalize L3.set c (.cells (tokL ({ ({ (⟨0, 0, 0, 0, 0⟩ : Tok) with k := 2 } : Tok) with d := v } : Tok)) 29 false 0) = L4 at *
      match hy : readNum qq r1 with
      | none =>
        rw [hy] at d4
        simp only at d4
        rw [show (e3 != 0) = true by simpa using d4, lif_true]
        exact ⟨_, _, _, _, r2, tok_end g4, out s4, h4, d4⟩
      | some (n, r3) =>
        rw [hy] at d4
        obtain ⟨w1, w2, w3, w4⟩ := d4
        rw [show (e3 != 0) = false by simpa using w1, lif_false]
        obtain ⟨L5, v5, e5, r5, p1, p2, p3, p4⟩ := long_ok (k := k) h4 m2 h9 (by omega)
        rw [p1]
        simp only [lbind_ret, tupL_tuple, uncons_cons, nilL_nil, asI_int, obind_some]
        have g5 := keep p2 g4
        rw [(stores_tok g5).2.1]
        simp only [obind_some]
        refine ⟨_, _, _, _, r5, tok_end (get_set_self g5), out ((s4.trans (wide p2)).trans setS), setD p3, ?_⟩
        rw [← w3]
        match hz : readLen z2 r2 with
        | none => rw [hz] at p4; exact p4
        | some (l, r6) =>
          rw [hz] at p4
          obtain ⟨y1, y2, y3⟩ := p4
          exact ⟨y1, rfl, by rw [y2, w2], y3⟩
theorem strOf_bytesL (s : ByteArray) : strOf (bytesL s) = s := by
  apply ByteArray.ext
  apply Array.ext'
  simp [strOf, bytesL, List.map_map]
  conv => rhs; rw [← List.map_id s.data.toList]
  exact List.map_congr_left fun b _ => UInt8.ofNat_toNat
theorem bytesL_strOf {vs : List Nat} (h : ∀ b ∈ vs, b < 256) : bytesL (strOf vs) = vs := by
  simp only [strOf, bytesL, List.map_map]
  conv => rhs; rw [← List.map_id vs]
  refine List.map_congr_left fun b hb => ?_
  have := h b hb
  simp only [Function.comp, id]
  rw [UInt8.toNat_ofNat', Nat.mod_eq_of_lt this]
theorem bytesL_from (s : ByteArray) (u : Nat) : bytesL (s.extract u s.size) = (bytesL s).drop u := by
  unfold bytesL
  rw [ByteArray.data_extract, ← List.map_drop]
  congr 1
  show (s.data.extract u s.data.size).toList = _
  rw [Array.toList_extract, List.extract_eq_take_drop]
  exact List.take_of_length_le (by simp)
theorem strBits_bytesL (s : ByteArray) : strBits (bytesL s) = Rlm.unpack s := by rw [strBits, strOf_bytesL]
/-- Lengths are read, and a coder is made of them. -/
theorem lens_ok {k n : Nat} {s : ByteArray} {L : LHeap} (hn : n ≤ 512) (hs : s.size < 2 ^ 30) (hk : s.size + 700 ≤ k) :
    ∃ L', Step [] L [] L' ∧ match readTab n (bytesL s) [] 0 (-1) true with
      | none => ∃ p q e, f34 k s (n : Int) L = some (.ret (.tuple #[.pointer p, .string q, .int .i64 e]) L') ∧ e ≠ 0
      | some (zs, u) => if may zs = true then ∃ b F, f34 k s (n : Int) L = some (.ret (.tuple #[.pointer (some ⟨b, 0, none⟩), .string (s.extract u s.size), .int .i64 0]) L') ∧ CO L' b zs F
          else ∃ p q e, f34 k s (n : Int) L = some (.ret (.tuple #[.pointer p, .string q, .int .i64 e]) L') ∧ e ≠ 0 := by
  obtain ⟨k, rfl⟩ : ∃ k', k = k' + 1 := ⟨k - 1, by omega⟩
  rw [f34_eq]
  have hr := read_ok (k := k) (n := n) (s := s) (L := L) hn (by omega) (by omega)
  match hx : readTab n (bytesL s) [] 0 (-1) true with
  | none =>
    rw [hx] at hr
    obtain ⟨L1, a1, a2⟩ := hr
    rw [a1]
    exact ⟨L1, a2, _, _, 4, rfl, by decide⟩
  | some (zs, u) =>
    rw [hx] at hr
    obtain ⟨l, L1, F1, a1, a2, a3⟩ := hr
    obtain ⟨_, hu, hz, _⟩ := readTab_used n (bytesL s) [] 0 (-1) true (by simp) hx
    rw [bytesL_length] at hu
    rw [a1]
    simp only [lbind_ret, tupL_tuple, uncons_cons, nilL_nil, asSl_slice, asI_int, obind_some]
    rw [show ((0 : Int) != 0) = false from rfl, lif_false]
    obtain ⟨n1, n2⟩ := new_ok (k := k) a2.ws.rd (by omega) (by omega)
    have hsub : subS s (some (u : Int)) none = some (s.extract u s.size) := by
      simp only [subS, bound_out (Nat.le_refl s.size), bound_at 0 (show u ≤ s.size by omega), Option.bind_eq_bind, Option.bind_some]
    cases hm : may zs with
    | true =>
      obtain ⟨b, F, L2, b1, b2, b3⟩ := n2 hm
      rw [b1]
      simp only [lbind_ret, tupL_tuple, uncons_cons, nilL_nil, asP_pointer, asI_int, obind_some, hsub]
      exact ⟨L2, (a3.less fun i hi => by cases hi).trans (b3.less fun i hi => by cases hi), by rw [if_pos trivial]; exact ⟨b, F, rfl, b2⟩⟩
    | false =>
      obtain ⟨L2, b1, b3⟩ := n1 hm
      rw [b1]
      simp only [lbind_ret, tupL_tuple, uncons_cons, nilL_nil, asP_pointer, asI_int, obind_some, hsub]
      exact ⟨L2, (a3.less fun i hi => by cases hi).trans b3, by rw [if_neg (by decide)]; exact ⟨_, _, 4, rfl, by decide⟩⟩
theorem size29 : Proofs.Try.prog.types[29].size = 5 := by kernel_rfl
theorem bytes29 : Proofs.Try.prog.types[29].bytes = 32 := by kernel_rfl
theorem src_tok {L : LHeap} {a b c d e : Value} {ty : TypeId} {ro : Bool} {sp q : Nat} : srcOf (L ++ [.cells [a, b, c, d, e] ty ro sp]) 5 1 (.slice (some ⟨L.length, 0, none⟩) 1 q) = some [a, b, c, d, e] := by
  simp [srcOf, srcCells, cellsAt]
  rfl
theorem readTok_less {z1 z2 : List Int} {r r' : List Bool} {t : Option Tok} (h : readTok z1 z2 r = some (t, r')) : r'.length < r.length := by
  have key : ∀ {z : List Int} {r r' : List Bool} {i : Nat}, readSym z r = (some i, r') → r'.length < r.length := by
    intro z r r' i h
    obtain ⟨h1, h2, rfl⟩ := readSym_some h
    have := symBits_pos h2
    simp; omega
  have knum : ∀ {n j : Nat} {r r' : List Bool}, readNum n r = some (j, r') → r'.length ≤ r.length := by
    intro n j r r' h
    obtain ⟨rfl, _⟩ := readNum_some h
    simp
  have klen : ∀ {l : Int} {r r' : List Bool}, readLen z2 r = some (l, r') → r'.length ≤ r.length := by
    intro l r r' h
    unfold readLen at h
    match hx : readSym z2 r with
    | (none, _) => rw [hx] at h; cases h
    | (some j, r1) =>
      rw [hx] at h
      simp only at h
      match hy : readNum j r1 with
      | none => rw [hy] at h; cases h
      | some (x, r2) =>
        rw [hy] at h
        injection h with h; injection h with h1 h2; subst h2
        have := key hx; have := knum hy; omega
  unfold readTok at h
  match hx : readSym z1 r with
  | (none, _) => rw [hx] at h; cases h
  | (some k, r1) =>
    rw [hx] at h
    have h1 := key hx
    simp only at h
    split at h
    · injection h with h; injection h with h2 h3; subst h3; exact h1
    · split at h
      · injection h with h; injection h with h2 h3; subst h3; exact h1
      · split at h
        · match hy : readLen z2 r1 with
          | none => rw [hy] at h; cases h
          | some (l, r2) =>
            rw [hy] at h
            injection h with h; injection h with h2 h3; subst h3
            have := klen hy; omega
        · generalize k - 260 = q at h
          match hy : readNum q r1 with
          | none => rw [hy] at h; cases h
          | some (d, r2) =>
            rw [hy] at h
            simp only at h
            match hz : readLen z2 r2 with
            | none => rw [hz] at h; cases h
            | some (l, r3) =>
              rw [hz] at h
              injection h with h; injection h with h2 h3; subst h3
              have := klen hz; have := knum hy; omega
theorem unpack_loop {k N d x b1 b2 : Nat} {z1 z2 : List Int} (m1 : may z1 = true) (m2 : may z2 = true) (h277 : z1.length = 277) (h9 : z2.length = 9) (hk : 100 ≤ k) :
    ∀ (f j : Nat) (l : Sl) (acc : List Tok) (r : List Bool) (Fo : List Nat) (L : LHeap), r.length < f → f ≤ j → DS L N d x b1 b2 z1 z2 r → OZ L l (acc.flatMap tokL) 29 5 Fo → (∀ i ∈ Fo, N ≤ i) → acc.length + f < 2 ^ 30 →
    match readToks z1 z2 f r acc with
    | none => ∃ L', f19_l9 k j d l L = some (.ret (.tuple #[.slice none 0 0, .int .i64 4]) L') ∧ Step (x :: Fo) L [] L'
    | some ts => ∃ l' L' F', f19_l9 k j d l L = some (.ret (.tuple #[.slice l'.a l'.n l'.c, .int .i64 0]) L') ∧ OZ L' l' (ts.flatMap tokL) 29 5 F' ∧ Step (x :: Fo) L F' L' ∧ ∀ i ∈ F', N ≤ i := by
  intro f
  induction f with
  | zero => intro j l acc r Fo L hr; omega
  | succ f ih =>
    intro j l acc r Fo L hr hj h hO hF hlen
    obtain ⟨j, rfl⟩ : ∃ j', j = j' + 1 := ⟨j - 1, by omega⟩
    obtain ⟨L1, t, b, e, r1, a1, a2, a3, a4⟩ := next_ok (k := k) h m1 m2 h277 h9 (by omega)
    rw [f19_l9_eq, a1]
    simp only [lbind_ret, tupL_tuple, uncons_cons, nilL_nil, asI_int, asB_bool, obind_some]
    rw [show aggL (List.length ([Leaf.i IntKind.u8] ++ ([Leaf.i IntKind.u8] ++ ([Leaf.i IntKind.i64] ++ ([Leaf.i IntKind.i64] ++ ([Leaf.i IntKind.i64] ++ [])))))) (.agg #[.int .u8 t.k, .int .u8 t.b, .int .i64 t.l, .int .i64 t.d, .int .i64 t.s]) = some [.int .u8 t.k, .int .u8 t.b, .int .i64 t.l, .int .i64 t.d, .int .i64 t.s] from rfl]
    simp only [uncons_cons, nilL_nil, asI_int, obind_some]
    rw [stores_new (by rfl)]
    simp only [obind_some]
    have hx : L1 ++ [LBlk.cells [Value.int .u8 t.k, Value.int .u8 t.b, Value.int .i64 t.l, Value.int .i64 t.d, Value.int .i64 t.s] 29 false 0] = L1 ++ [LBlk.cells (tokL t) 29 false 0] := rfl
    rw [hx]
    have g0 : (L1 ++ [LBlk.cells (tokL t) 29 false 0])[L1.length]? = some (.cells (tokL t) 29 false 0) := get_new
    have hO1 := hO.mono (a2.others hO.within fun i hi hf => by simp at hi; subst hi; have := hF _ hf; have := h.xN; omega)
    have hO2 : OZ (L1 ++ [LBlk.cells (tokL t) 29 false 0]) l (acc.flatMap tokL) 29 5 Fo := hO1.mono fun i hi => get_push (hO1.within i hi)
    have h2 : DS (L1 ++ [LBlk.cells (tokL t) 29 false 0]) N d x b1 b2 z1 z2 r1 := a3.frame (fun i hi => get_push (by have := a3.NL; omega)) (by simp)
    have st2 : Step (x :: Fo) L (x :: Fo) (L1 ++ [LBlk.cells (tokL t) 29 false 0]) := (Step.wide a2 (by simp)).trans (.push _ _ _)
    have hlt : L1.length < (L1 ++ [LBlk.cells (tokL t) 29 false 0]).length := by simp
    generalize L1 ++ [LBlk.cells (tokL t) 29 false 0] = L2 at *
    have stN : Step (x :: Fo) L [] L2 := st2.less fun i hi => by cases hi
    unfold readToks
    match hy : readTok z1 z2 r with
    | none =>
      rw [hy] at a4
      simp only at a4 ⊢
      rw [show (e != 0) = true by simpa using a4, lif_true]
      exact ⟨L2, rfl, stN⟩
    | some (none, r2) =>
      rw [hy] at a4
      obtain ⟨rfl, rfl, rfl⟩ := a4
      simp only
      rw [show ((0 : Int) != 0) = false from rfl, lif_false, Bool.not_false, lif_true]
      have c0 : cell L2 ((Addr.mk d 0 none).add 0) = some (.pointer (some ⟨x, 0, none⟩)) := by rw [mk_add, cell_of h2.at_d]; rfl
      rw [c0]
      simp only [Option.bind_some, asP_pointer, obind_some]
      rw [end_ok h2.br (by omega)]
      simp only [lbind_ret, asB_bool, obind_some]
      have he : endOf r1 = endOk r1 := rfl
      rw [he]
      cases hend : endOk r1 with
      | true =>
        simp only [if_true]
        rw [Bool.not_true, lif_false, lif_true]
        exact ⟨l, L2, Fo, rfl, hO2, st2.less (fun i hi => .inl (by simp [hi])), hF⟩
      | false =>
        simp only [Bool.false_eq_true, if_false]
        rw [Bool.not_false, lif_true]
        exact ⟨L2, rfl, stN⟩
    | some (some u, r2) =>
      rw [hy] at a4
      obtain ⟨rfl, rfl, rfl, rfl⟩ := a4
      have hless := readTok_less hy
      simp only
      rw [show ((0 : Int) != 0) = false from rfl, lif_false, Bool.not_true, lif_false, lif_false]
      obtain ⟨e0, e1, e2, e3, e4⟩ := tok_cell g0
      rw [e0]; simp only [Option.bind_some, asI_int, obind_some]
      rw [e1]; simp only [Option.bind_some, asI_int, obind_some]
      rw [e2]; simp only [Option.bind_some, asI_int, obind_some]
      rw [e3]; simp only [Option.bind_some, asI_int, obind_some]
      rw [e4]; simp only [Option.bind_some, asI_int, obind_some]
      rw [shape_ok (by omega)]
      simp only [lbind_ret, asB_bool, obind_some]
      have g3 : (L2 ++ [LBlk.cells (tokL t) 29 false 0])[L1.length]? = some (.cells (tokL t) 29 false 0) := by rw [get_push hlt, g0]
      have hO3 : OZ (L2 ++ [LBlk.cells (tokL t) 29 false 0]) l (acc.flatMap tokL) 29 5 Fo := hO2.mono fun i hi => get_push (hO2.within i hi)
      have h3 : DS (L2 ++ [LBlk.cells (tokL t) 29 false 0]) N d x b1 b2 z1 z2 r1 := h2.frame (fun i hi => get_push (by have := h2.NL; omega)) (by simp)
      have st3 : Step (x :: Fo) L (x :: Fo) (L2 ++ [LBlk.cells (tokL t) 29 false 0]) := st2.trans (.push _ _ _)
      generalize L2 ++ [LBlk.cells (tokL t) 29 false 0] = L3 at *
      cases hsh : tokShape t with
      | false =>
        simp only [Bool.false_eq_true, if_false]
        rw [Bool.not_false, lif_true]
        exact ⟨L3, rfl, st3.less fun i hi => by cases hi⟩
      | true =>
        simp only [if_true]
        rw [Bool.not_true, lif_false]
        obtain ⟨e0, e1, e2, e3, e4⟩ := tok_cell g3
        rw [e0]; simp only [Option.bind_some, asI_int, obind_some]
        rw [e1]; simp only [Option.bind_some, asI_int, obind_some]
        rw [e2]; simp only [Option.bind_some, asI_int, obind_some]
        rw [e3]; simp only [Option.bind_some, asI_int, obind_some]
        rw [e4]; simp only [Option.bind_some, asI_int, obind_some]
        rw [size29, bytes29, src_tok]
        simp only [obind_some]
        have hO4 : OZ (L3 ++ [LBlk.cells [Value.int .u8 t.k, Value.int .u8 t.b, Value.int .i64 t.l, Value.int .i64 t.d, Value.int .i64 t.s] 29 false 0]) l (acc.flatMap tokL) 29 5 Fo := hO3.mono fun i hi => get_push (hO3.within i hi)
        have h4 : DS (L3 ++ [LBlk.cells [Value.int .u8 t.k, Value.int .u8 t.b, Value.int .i64 t.l, Value.int .i64 t.d, Value.int .i64 t.s] 29 false 0]) N d x b1 b2 z1 z2 r1 := h3.frame (fun i hi => get_push (by have := h3.NL; omega)) (by simp)
        have st4 : Step (x :: Fo) L (x :: Fo) (L3 ++ [LBlk.cells [Value.int .u8 t.k, Value.int .u8 t.b, Value.int .i64 t.l, Value.int .i64 t.d, Value.int .i64 t.s] 29 false 0]) := st3.trans (.push _ _ _)
        generalize L3 ++ [LBlk.cells [Value.int .u8 t.k, Value.int .u8 t.b, Value.int .i64 t.l, Value.int .i64 t.d, Value.int .i64 t.s] 29 false 0] = L4 at *
        have hn := (OZ.rt hO4).len
        obtain ⟨s', L5, F5, p1, p2, p3, p4⟩ := hO4.app [.int .u8 t.k, .int .u8 t.b, .int .i64 t.l, .int .i64 t.d, .int .i64 t.s] 1 32 (by omega) (by rfl) (by omega) (by omega)
        rw [p1]
        simp only [obind_some]
        have hFl : ∀ i ∈ F5, N ≤ i := fun i hi => by
          rcases p4.foot i hi with q | q
          · exact hF i q
          · have := h4.NL; omega
        have h5 : DS L5 N d x b1 b2 z1 z2 r1 := h4.frame (fun i hi => p4.keep i (by have := h4.NL; omega) fun hf => by have := hF i hf; omega) p4.len
        have hcat : acc.flatMap tokL ++ [.int .u8 t.k, .int .u8 t.b, .int .i64 t.l, .int .i64 t.d, .int .i64 t.s] = (acc ++ [t]).flatMap tokL := by simp [tokL]
        rw [hcat] at p2
        have st5 : Step (x :: Fo) L (x :: F5) L5 := st4.trans ⟨p4.len, fun i hi hn => p4.keep i hi fun hf => hn (by simp [hf]), fun i hi => by
          rcases List.mem_cons.1 hi with rfl | hi
          · exact .inl (by simp)
          · rcases p4.foot i hi with q | q
            · exact .inl (by simp [q])
            · exact .inr q⟩
        have := ih j s' (acc ++ [t]) r1 F5 L5 (by omega) (by omega) h5 p2 hFl (by simp; omega)
        match hz : readToks z1 z2 f r1 (acc ++ [t]) with
        | none =>
          rw [hz] at this
          obtain ⟨L6, q1, q2⟩ := this
          exact ⟨L6, q1, st5.trans q2⟩
        | some ts =>
          rw [hz] at this
          obtain ⟨l6, L6, F6, q1, q2, q3, q4⟩ := this
          exact ⟨l6, L6, F6, q1, q2, st5.trans q3, q4⟩
/-- **Unpack.** -/
theorem unpack_ok {k : Nat} {s : ByteArray} {L : LHeap} (hs : s.size < 2 ^ 25) (hk : 8 * s.size + 900 ≤ k) :
    match unpackB (bytesL s) with
    | none => ∃ L', f19 k s L = some (.ret (.tuple #[.slice none 0 0, .int .i64 4]) L') ∧ Step [] L [] L'
    | some ts => ∃ l' L' F', f19 k s L = some (.ret (.tuple #[.slice l'.a l'.n l'.c, .int .i64 0]) L') ∧ OZ L' l' (ts.flatMap tokL) 29 5 F' ∧ Step [] L F' L' := by
  obtain ⟨k, rfl⟩ : ∃ k', k = k' + 1 := ⟨k - 1, by omega⟩
  rw [f19_eq]
  obtain ⟨L1, s1, a1⟩ := lens_ok (k := k) (n := 277) (s := s) (L := L) (by omega) (by omega) (by omega)
  have e277 : (277 : Int) = ((277 : Nat) : Int) := rfl
  have e9 : (9 : Int) = ((9 : Nat) : Int) := rfl
  unfold unpackB unpackS
  match hx : readTab 277 (bytesL s) [] 0 (-1) true with
  | none =>
    rw [hx] at a1
    obtain ⟨p, q, e, a2, a3⟩ := a1
    rw [e277, a2]
    simp only [lbind_ret, tupL_tuple, uncons_cons, nilL_nil, asP_pointer, asS_string, asI_int, obind_some]
    rw [show (e != 0) = true by simpa using a3, lif_true]
    exact ⟨L1, rfl, s1⟩
  | some (z1, u) =>
    rw [hx] at a1
    simp only at a1 ⊢
    obtain ⟨_, hu, hz1, _⟩ := readTab_used 277 (bytesL s) [] 0 (-1) true (by simp) hx
    rw [bytesL_length] at hu
    cases m1 : may z1 with
    | false =>
      rw [m1, if_neg (by decide)] at a1
      obtain ⟨p, q, e, a2, a3⟩ := a1
      rw [e277, a2]
      simp only [lbind_ret, tupL_tuple, uncons_cons, nilL_nil, asP_pointer, asS_string, asI_int, obind_some, Bool.false_eq_true, if_false]
      rw [show (e != 0) = true by simpa using a3, lif_true]
      exact ⟨L1, rfl, s1⟩
    | true =>
      rw [m1, if_pos rfl] at a1
      obtain ⟨b1, F1, a2, a3⟩ := a1
      rw [e277, a2]
      simp only [lbind_ret, tupL_tuple, uncons_cons, nilL_nil, asP_pointer, asS_string, asI_int, obind_some, if_true]
      rw [show ((0 : Int) != 0) = false from rfl, lif_false]
      have hsz : (s.extract u s.size).size = s.size - u := by rw [ByteArray.size_extract]; omega
      obtain ⟨L2, s2, b⟩ := lens_ok (k := k) (n := 9) (s := s.extract u s.size) (L := L1) (by omega) (by omega) (by omega)
      rw [bytesL_from] at b
      rw [e9]
      match hy : readTab 9 ((bytesL s).drop u) [] 0 (-1) true with
      | none =>
        rw [hy] at b
        obtain ⟨p, q, e, c2, c3⟩ := b
        rw [c2]
        simp only [lbind_ret, tupL_tuple, uncons_cons, nilL_nil, asP_pointer, asS_string, asI_int, obind_some]
        rw [show (e != 0) = true by simpa using c3, lif_true]
        exact ⟨L2, rfl, s1.trans s2⟩
      | some (z2, v) =>
        rw [hy] at b
        simp only at b ⊢
        obtain ⟨_, hv, hz2, _⟩ := readTab_used 9 ((bytesL s).drop u) [] 0 (-1) true (by simp) hy
        cases m2 : may z2 with
        | false =>
          rw [m2, if_neg (by decide)] at b
          obtain ⟨p, q, e, c2, c3⟩ := b
          rw [c2]
          simp only [lbind_ret, tupL_tuple, uncons_cons, nilL_nil, asP_pointer, asS_string, asI_int, obind_some, Bool.false_eq_true, if_false]
          rw [show (e != 0) = true by simpa using c3, lif_true]
          exact ⟨L2, rfl, s1.trans s2⟩
        | true =>
          rw [m2, if_pos rfl] at b
          obtain ⟨b2, F2, c2, c3⟩ := b
          rw [c2]
          simp only [lbind_ret, tupL_tuple, uncons_cons, nilL_nil, asP_pointer, asS_string, asI_int, obind_some, if_true]
          rw [show ((0 : Int) != 0) = false from rfl, lif_false]
          have hbits : Rlm.unpack ((s.extract u s.size).extract v (s.extract u s.size).size) = strBits (((bytesL s).drop u).drop v) := by
            rw [← strBits_bytesL, bytesL_from, bytesL_from]
          generalize hs3 : (s.extract u s.size).extract v (s.extract u s.size).size = s3 at *
          have hsz3 : s3.size ≤ s.size := by rw [← hs3, ByteArray.size_extract, hsz]; omega
          obtain ⟨L3, o1, o2, o3⟩ := open_ok (k := k) (s := s3) (L := L2) (by omega) (by omega)
          rw [o1]
          simp only [lbind_ret, asP_pointer, obind_some]
          have cO1 : CO L2 b1 z1 F1 := a3.mono (s2.others a3.within fun _ h => by cases h) s2.len
          have c1' : CO L3 b1 z1 F1 := cO1.mono (o3.others cO1.within fun _ h => by cases h) o3.len
          have c2' : CO L3 b2 z2 F2 := c3.mono (o3.others c3.within fun _ h => by cases h) o3.len
          have hlt3 : L2.length < L3.length := o2.lt
          have st4 : Step [L2.length] L3 [L2.length] (L3 ++ [LBlk.cells [Value.pointer (some ⟨L2.length, 0, none⟩), Value.pointer (some ⟨b1, 0, none⟩), Value.pointer (some ⟨b2, 0, none⟩)] 65 false 0]) := .push _ _ _
          have hds : DS (L3 ++ [LBlk.cells [Value.pointer (some ⟨L2.length, 0, none⟩), Value.pointer (some ⟨b1, 0, none⟩), Value.pointer (some ⟨b2, 0, none⟩)] 65 false 0]) (L3.length + 1) L3.length L2.length b1 b2 z1 z2 (Rlm.unpack s3) := by
            refine ⟨get_new, o2.mono (get_push hlt3), ⟨F1, c1'.mono (fun i hi => get_push (c1'.within i hi)) (by simp), ?_, fun i hi => by have := c1'.within i hi; omega⟩, ⟨F2, c2'.mono (fun i hi => get_push (c2'.within i hi)) (by simp), ?_, fun i hi => by have := c2'.within i hi; omega⟩, by omega, by omega, by omega, by simp⟩
            · intro hf; have := cO1.within _ hf; omega
            · intro hf; have := c3.within _ hf; omega
          have hul : (Rlm.unpack s3).length = 8 * s3.size := unpack_length _
          have := unpack_loop (k := k) (N := L3.length + 1) (d := L3.length) (x := L2.length) (b1 := b1) (b2 := b2) m1 m2 hz1 hz2 (by omega) (8 * (bytesL s).length + 1) k ⟨none, 0, 0⟩ [] (Rlm.unpack s3) [] _ (by rw [hul, bytesL_length]; omega) (by rw [bytesL_length]; omega) hds (OZ.nil _ _ (by omega)) (fun i hi => by cases hi) (by rw [bytesL_length]; simp; omega)
          rw [hbits] at this
          match hz : readToks z1 z2 (8 * (bytesL s).length + 1) (strBits (((bytesL s).drop u).drop v)) [] with
          | none =>
            rw [hz] at this
            obtain ⟨L5, q1, q2⟩ := this
            refine ⟨L5, q1, (((s1.trans s2).trans o3).trans st4).trans q2⟩
          | some ts =>
            rw [hz] at this
            obtain ⟨l5, L5, F5, q1, q2, q3, q4⟩ := this
            exact ⟨l5, L5, F5, q1, q2, (((s1.trans s2).trans o3).trans st4).trans q3⟩
end Go.Proofs.Ytflhogapjmdkaaa.X
end

section
set_option maxRecDepth 100000
set_option linter.unusedVariables false
namespace Go.Proofs.Ytflhogapjmdkaaa.X
open Go Go.Rlm
theorem RT.lit {L : LHeap} {ts : List Tok} {n sp : Nat} {ro : Bool} (hn : n = ts.length) : RT (L ++ [.cells (ts.flatMap tokL) 29 ro sp]) ⟨some ⟨L.length, 0, none⟩, n, n⟩ ts [L.length] :=
  ⟨hn, .inr ⟨L.length, 0, _, 29, ro, sp, rfl, get_new, fun i t ht j v hv => by rw [Nat.zero_add]; exact tokL_get ht hv, rfl⟩⟩
/-- Tokens that can be packed: what comes of it. -/
theorem packStr_ok {ts : List Tok} (h : ∀ t ∈ ts, tokShape t = true) : packStr ts = strOf (packB ts) ∧ packErr ts = 0 := by
  have : ts.all tokShape = true := by simpa using h
  unfold packStr packErr
  rw [this]
  exact ⟨rfl, rfl⟩
theorem packStr_bad {ts : List Tok} (h : ¬ ∀ t ∈ ts, tokShape t = true) : packStr ts = ⟨#[]⟩ ∧ packErr ts = 4 := by
  have : ts.all tokShape = false := by
    cases hx : ts.all tokShape with
    | true => exact absurd (by simpa using hx) h
    | false => rfl
  unfold packStr packErr
  rw [this]
  exact ⟨rfl, rfl⟩
/-- Unpack of Pack. -/
theorem back_ok {k : Nat} {ts : List Tok} {L : LHeap} (hf : Fit ts) (h : ∀ t ∈ ts, tokShape t = true) (hk : 56 * ts.length + 4000 ≤ k) :
    ∃ l' L' F', f19 k (packStr ts) L = some (.ret (.tuple #[.slice l'.a l'.n l'.c, .int .i64 0]) L') ∧ OZ L' l' (ts.flatMap tokL) 29 5 F' ∧ Step [] L F' L' := by
  have hsz := packB_le hf.1 h
  have hlen := hf.1
  have := unpack_ok (k := k) (s := strOf (packB ts)) (L := L) (by rw [strOf_size]; omega) (by rw [strOf_size]; omega)
  rw [bytesL_strOf (packB_small hf.1), unpack_pack hf h] at this
  rw [(packStr_ok h).1]
  exact this
theorem last0 : (packB [])[(packB []).length - 1]? = some 0 := by kernel_rfl
theorem byteAt_last : byteAt (strOf (packB [])) (IntKind.wrap .i64 (((strOf (packB [])).size : Int) - 1)) = some 0 := by
  have h1 := packB_ge [] (by simp)
  have h2 := packB_le (ts := []) (by simp) (fun t ht => by cases ht)
  simp only [List.length_nil] at h2
  rw [strOf_size, wI64 (by omega) (by omega), show ((packB []).length : Int) - 1 = (((packB []).length - 1 : Nat) : Int) by omega]
  obtain ⟨b, b1, b2, b3⟩ := bytesL_at (s := strOf (packB [])) (i := (packB []).length - 1) (by rw [strOf_size]; omega)
  rw [bytesL_strOf (packB_small (by simp)), last0] at b1
  injection b1 with b1
  rw [b2, ← b1]
  rfl
def ts3 : List Tok := [⟨1, 97, 0, 0, 0⟩, ⟨2, 0, 258, 1, 0⟩, ⟨3, 0, 3, 0, 3⟩]
theorem ts3_ok : Fit ts3 ∧ ∀ t ∈ ts3, tokShape t = true := by
  refine ⟨⟨by decide, fun t ht => ?_⟩, fun t ht => ?_⟩
  · simp only [ts3, List.mem_cons, List.mem_nil_iff, or_false] at ht
    rcases ht with rfl | rfl | rfl <;> exact ⟨⟨by decide, by decide⟩, ⟨by decide, by decide⟩⟩
  · simp only [ts3, List.mem_cons, List.mem_nil_iff, or_false] at ht
    rcases ht with rfl | rfl | rfl <;> decide
def ts9 : List Tok := [⟨9, 0, 0, 0, 0⟩]
theorem awake_ok {k : Nat} {L : LHeap} (hk : 5000 ≤ k) : ∃ L', f13 k L = some (.ret (.bool true) L') ∧ Step [] L [] L' := by
  obtain ⟨k, rfl⟩ : ∃ k', k = k' + 1 := ⟨k - 1, by omega⟩
  rw [f13_eq]
  have hf3 := ts3_ok
  have nil_ok : Fit [] ∧ ∀ t ∈ ([] : List Tok), tokShape t = true := ⟨⟨by decide, fun t ht => by cases ht⟩, fun t ht => by cases ht⟩
  have l3 : RT (L ++ [.cells (ts3.flatMap tokL) 29 false 0]) ⟨some ⟨L.length, 0, none⟩, 3, 3⟩ ts3 [L.length] := RT.lit rfl
  have s0 : Step [] L [] (L ++ [.cells (ts3.flatMap tokL) 29 false 0]) := .push _ _ _
  have hx : [LBlk.cells
          [Value.int IntKind.u8 1, Value.int IntKind.u8 97, Value.int IntKind.i64 0, Value.int IntKind.i64 0, Value.int IntKind.i64 0, Value.int IntKind.u8 2, Value.int IntKind.u8 0,
            Value.int IntKind.i64 258, Value.int IntKind.i64 1, Value.int IntKind.i64 0, Value.int IntKind.u8 3, Value.int IntKind.u8 0, Value.int IntKind.i64 3, Value.int IntKind.i64 0,
            Value.int IntKind.i64 3]
          29 false 0] = [.cells (ts3.flatMap tokL) 29 false 0] := rfl
  rw [hx]
  generalize L ++ [.cells (ts3.flatMap tokL) 29 false 0] = L0 at *
  obtain ⟨L1, a1, a2⟩ := pack_ok (k := k) l3 hf3.1 (by simp only [ts3, List.length_cons, List.length_nil]; omega)
  have l3a := l3.mono (a2.others l3.within (fun i hi => by cases hi))
  rw [a1]
  simp only [lbind_ret, tupL_tuple, uncons_cons, nilL_nil, asS_string, asI_int, obind_some]
  obtain ⟨m1, L2, F2, b1, b2, b3⟩ := back_ok (k := k) (L := L1) hf3.1 hf3.2 (by simp only [ts3, List.length_cons, List.length_nil]; omega)
  have l3b := l3a.mono (b3.others l3a.within (fun i hi => by cases hi))
  rw [b1]
  simp only [lbind_ret, tupL_tuple, uncons_cons, nilL_nil, asSl_slice, asI_int, obind_some]
  obtain ⟨L3, c1, c2⟩ := pack_ok (k := k) (L := L2) (l := ⟨none, 0, 0⟩) (ts := []) (A := []) ⟨rfl, .inl ⟨rfl, rfl⟩⟩ nil_ok.1 (by simp; omega)
  have l3c := l3b.mono (c2.others l3b.within (fun i hi => by cases hi))
  have b2c := b2.mono (c2.others b2.within (fun i hi => by cases hi))
  rw [c1]
  simp only [lbind_ret, tupL_tuple, uncons_cons, nilL_nil, asS_string, asI_int, obind_some]
  obtain ⟨m2, L4, F4, d1, d2, d3⟩ := back_ok (k := k) (L := L3) nil_ok.1 nil_ok.2 (by simp; omega)
  have l3d := l3c.mono (d3.others l3c.within (fun i hi => by cases hi))
  have b2d := b2c.mono (d3.others b2c.within (fun i hi => by cases hi))
  have hm2 := (OZ.rt d2).len
  rw [d1]
  simp only [lbind_ret, tupL_tuple, uncons_cons, nilL_nil, asSl_slice, asI_int, obind_some]
  have e := unpack_ok (k := k) (s := ByteArray.mk #[]) (L := L4) (by decide) (by show 8 * 0 + 900 ≤ k; omega)
  rw [show unpackB (bytesL (ByteArray.mk #[])) = none from rfl] at e
  obtain ⟨L5, e1, e2⟩ := e
  have l3e := l3d.mono (e2.others l3d.within (fun i hi => by cases hi))
  have b2e := b2d.mono (e2.others b2d.within (fun i hi => by cases hi))
  rw [e1]
  simp only [lbind_ret, tupL_tuple, uncons_cons, nilL_nil, asSl_slice, asI_int, obind_some]
  have l9 : RT (L5 ++ [.cells (ts9.flatMap tokL) 29 false 0]) ⟨some ⟨L5.length, 0, none⟩, 1, 1⟩ ts9 [L5.length] := RT.lit rfl
  have s5 : Step [] L5 [] (L5 ++ [.cells (ts9.flatMap tokL) 29 false 0]) := .push _ _ _
  have hy : [LBlk.cells [Value.int IntKind.u8 9, Value.int IntKind.u8 0, Value.int IntKind.i64 0, Value.int IntKind.i64 0, Value.int IntKind.i64 0] 29 false 0] = [.cells (ts9.flatMap tokL) 29 false 0] := rfl
  rw [hy]
  generalize L5 ++ [.cells (ts9.flatMap tokL) 29 false 0] = L6 at *
  have l3f := l3e.mono (s5.others l3e.within (fun i hi => by cases hi))
  have b2f := b2e.mono (s5.others b2e.within (fun i hi => by cases hi))
  obtain ⟨L7, g1, g2⟩ := pack_ok (k := k) l9 ⟨by decide, fun t ht => by
    simp only [ts9, List.mem_cons, List.mem_nil_iff, or_false] at ht
    subst ht; exact ⟨⟨by decide, by decide⟩, ⟨by decide, by decide⟩⟩⟩ (by simp only [ts9, List.length_cons, List.length_nil]; omega)
  have l3g := l3f.mono (g2.others l3f.within (fun i hi => by cases hi))
  have b2g := b2f.mono (g2.others b2f.within (fun i hi => by cases hi))
  rw [g1]
  simp only [lbind_ret, tupL_tuple, uncons_cons, nilL_nil, asS_string, asI_int, obind_some]
  have hs := same_ok (k := k) l3g (OZ.rt b2g) (by decide) (by decide) (by simp only [ts3, List.length_cons, List.length_nil]; omega)
  rw [hs]
  have e3 := packStr_ok hf3.2
  have e0 := packStr_ok nil_ok.2
  have e9 : packErr ts9 = 4 := by decide
  rw [e3.2, e0.2, e9, e0.1]
  simp only [lbind_ret, asB_bool, obind_some, byteAt_last, decide_true]
  rw [hm2]
  refine ⟨L7, rfl, ?_⟩
  exact ((((((s0.trans a2).trans (b3.less fun i hi => by cases hi)).trans c2).trans (d3.less fun i hi => by cases hi)).trans e2).trans s5).trans g2
end Go.Proofs.Ytflhogapjmdkaaa.X
end

section
set_option maxRecDepth 100000
set_option linter.unusedVariables false
namespace Go.Proofs.Ytflhogapjmdkaaa.X
open Go Go.Rlm
theorem inp_rt {L : LHeap} {l : Sl} {ts : List Tok} {A : List Nat} (h : Inp L l 5 (toksCells ts) A) : RT L l ts A := by
  obtain ⟨h1, h2⟩ := h
  rw [toksCells_length] at h1
  refine ⟨by omega, ?_⟩
  rcases h2 with ⟨h2, rfl⟩ | ⟨c, h2, h3, rfl⟩
  · refine .inl ⟨?_, rfl⟩
    have := toksCells_length ts
    rw [h2] at this
    exact List.eq_nil_of_length_eq_zero (by simp at this; omega)
  · exact .inr ⟨c, 0, _, 0, true, 0, h2, h3, fun i t ht j v hv => by rw [Nat.zero_add]; exact tokL_get ht hv, rfl⟩
end Go.Proofs.Ytflhogapjmdkaaa.X
end

section
set_option maxRecDepth 100000
set_option linter.unusedVariables false
namespace Go.Proofs.Ytflhogapjmdkaaa.X
open Go Go.Rlm
/-- slots 0, 4, 5 -/
noncomputable def f15_l3 (k : Nat) (j3 : Nat) (l83 : Sl) (l84 : Sl) (n85 : Int) (L : LHeap) : R :=
  loopAt Proofs.Try.prog Proofs.Ytflhogapjmdkaaa.X.T 15 k [1, 1, 0, 1, 0] [] j3 [(0, Value.slice l83.a l83.n l83.c), (4, Value.slice l84.a l84.n l84.c), (5, Value.int IntKind.i64 n85)] L
/-- slots 4, 6, 7, 8 -/
noncomputable def f15_l11 (k : Nat) (j11 : Nat) (l86 : Sl) (l87 : Sl) (l88 : Sl) (n89 : Int) (L : LHeap) : R :=
  loopAt Proofs.Try.prog Proofs.Ytflhogapjmdkaaa.X.T 15 k [1, 1, 1, 1, 1, 0, 1, 0] [] j11
  [(4, Value.slice l86.a l86.n l86.c), (6, Value.slice l87.a l87.n l87.c), (7, Value.slice l88.a l88.n l88.c), (8, Value.int IntKind.i64 n89)] L
/-- slots 4, 9, 12, 15, 17, 19, 20 -/
noncomputable def f15_l23 (k : Nat) (j23 : Nat) (l90 : Sl) (l91 : Sl) (l92 : Sl) (l93 : Sl) (l94 : Sl) (l95 : Sl) (n96 : Int) (L : LHeap) : R :=
  loopAt Proofs.Try.prog Proofs.Ytflhogapjmdkaaa.X.T 15 k [1, 1, 1, 1, 1, 1, 1, 1, 1, 1, 1, 0, 1, 0] [] j23
  [(4, Value.slice l90.a l90.n l90.c), (9, Value.slice l91.a l91.n l91.c), (12, Value.slice l92.a l92.n l92.c), (15, Value.slice l93.a l93.n l93.c), (17, Value.slice l94.a l94.n l94.c),
    (19, Value.slice l95.a l95.n l95.c), (20, Value.int IntKind.i64 n96)]
  L
theorem f15_eq (k : Nat) (l0 : Sl) (L : LHeap) : Proofs.Ytflhogapjmdkaaa.X.f15 (k + 1) l0 L =
  Proofs.Ytflhogapjmdkaaa.X.f15_l3 k k l0 (Sl.mk none 0 0) 0 L := by kernel_rfl
theorem f15_l3_eq (k : Nat) (j3 : Nat) (l0 : Sl) (l1 : Sl) (n2 : Int) (L : LHeap) : Proofs.Ytflhogapjmdkaaa.X.f15_l3 k (j3 + 1) l0 l1 n2 L =
  lif (decide (n2 < (↑l0.n : Int)))
  (obind (idx l0 n2 5) fun a3 =>
    obind (Option.bind (cell L (Addr.add a3 0)) (asI IntKind.u8)) fun n4 =>
      obind (Option.bind (cell L (Addr.add a3 1)) (asI IntKind.u8)) fun n5 =>
        obind (Option.bind (cell L (Addr.add a3 2)) (asI IntKind.i64)) fun n6 =>
          obind (Option.bind (cell L (Addr.add a3 3)) (asI IntKind.i64)) fun n7 =>
            obind (Option.bind (cell L (Addr.add a3 4)) (asI IntKind.i64)) fun n8 =>
              lbind (Proofs.Ytflhogapjmdkaaa.X.f17 k n4 n5 n6 n7 n8 L) fun v9 L10 =>
                obind (asB v9) fun b11 =>
                  lif (!b11) (some (LR.ret (Value.tuple #[Value.string (ByteArray.mk #[]), Value.int IntKind.i64 4]) L10))
                    (obind (idx l0 n2 5) fun a12 =>
                      obind (Option.bind (cell L10 (Addr.add a12 0)) (asI IntKind.u8)) fun n13 =>
                        obind (Option.bind (cell L10 (Addr.add a12 1)) (asI IntKind.u8)) fun n14 =>
                          obind (Option.bind (cell L10 (Addr.add a12 2)) (asI IntKind.i64)) fun n15 =>
                            obind (Option.bind (cell L10 (Addr.add a12 3)) (asI IntKind.i64)) fun n16 =>
                              obind (Option.bind (cell L10 (Addr.add a12 4)) (asI IntKind.i64)) fun n17 =>
                                lbind (Proofs.Ytflhogapjmdkaaa.X.f28 k n13 n14 n15 n16 n17 L10) fun v18 L19 =>
                                  obind (asSl v18) fun l20 =>
                                    obind (srcOf L19 Proofs.Try.prog.types[48].size l20.n (Value.slice l20.a l20.n l20.c)) fun x21 =>
                                      obind (app L19 48 Proofs.Try.prog.types[48].size Proofs.Try.prog.types[48].bytes l1 l20.n x21) fun x22 =>
                                        Proofs.Ytflhogapjmdkaaa.X.f15_l3 k j3 l0 x22.fst (IntKind.wrap IntKind.i64 (n2 + 1)) x22.snd))
  (obind
    (srcOf (L ++ [LBlk.cells [Value.int IntKind.i64 256, Value.int IntKind.i64 (-1), Value.string (ByteArray.mk #[])] 48 false 0]) Proofs.Try.prog.types[48].size 1
      (Value.slice (some (Addr.mk (List.length L) 0 none)) 1 1))
    fun x23 =>
    obind
      (app (L ++ [LBlk.cells [Value.int IntKind.i64 256, Value.int IntKind.i64 (-1), Value.string (ByteArray.mk #[])] 48 false 0]) 48 Proofs.Try.prog.types[48].size Proofs.Try.prog.types[48].bytes l1
        1 x23)
      fun x24 =>
      Proofs.Ytflhogapjmdkaaa.X.f15_l11 k k x24.fst (Sl.mk (some (Addr.mk (List.length x24.snd) 0 none)) 277 277)
        (Sl.mk (some (Addr.mk (List.length (x24.snd ++ [LBlk.cells (List.flatten (List.replicate 277 [Value.int IntKind.i64 0])) 3 false 0])) 0 none)) 9 9) 0
        (x24.snd ++ [LBlk.cells (List.flatten (List.replicate 277 [Value.int IntKind.i64 0])) 3 false 0] ++
          [LBlk.cells
              [Value.int IntKind.i64 0, Value.int IntKind.i64 0, Value.int IntKind.i64 0, Value.int IntKind.i64 0, Value.int IntKind.i64 0, Value.int IntKind.i64 0, Value.int IntKind.i64 0,
                Value.int IntKind.i64 0, Value.int IntKind.i64 0]
              3 false 0])) := by kernel_rfl
theorem f15_l11_eq (k : Nat) (j11 : Nat) (l0 : Sl) (l1 : Sl) (l2 : Sl) (n3 : Int) (L : LHeap) : Proofs.Ytflhogapjmdkaaa.X.f15_l11 k (j11 + 1) l0 l1 l2 n3 L =
  lif (decide (n3 < (↑l0.n : Int)))
  (obind (idx l0 n3 3) fun a4 =>
    obind (Option.bind (cell L (Addr.add a4 0)) (asI IntKind.i64)) fun n5 =>
      lif (decide (n5 ≥ 0))
        (obind (idx l0 n3 3) fun a6 =>
          obind (Option.bind (cell L (Addr.add a6 0)) (asI IntKind.i64)) fun n7 =>
            obind (idx l1 n7 1) fun a8 =>
              obind (Option.bind (cell L a8) (asI IntKind.i64)) fun n9 =>
                obind (idx l1 n7 1) fun a10 =>
                  obind (stores L a10 [Value.int IntKind.i64 (IntKind.wrap IntKind.i64 (n9 + 1))]) fun L11 =>
                    obind (idx l0 n3 3) fun a12 =>
                      obind (Option.bind (cell L11 (Addr.add a12 1)) (asI IntKind.i64)) fun n13 =>
                        lif (decide (n13 ≥ 0))
                          (obind (idx l0 n3 3) fun a14 =>
                            obind (Option.bind (cell L11 (Addr.add a14 1)) (asI IntKind.i64)) fun n15 =>
                              obind (idx l2 n15 1) fun a16 =>
                                obind (Option.bind (cell L11 a16) (asI IntKind.i64)) fun n17 =>
                                  obind (idx l2 n15 1) fun a18 =>
                                    obind (stores L11 a18 [Value.int IntKind.i64 (IntKind.wrap IntKind.i64 (n17 + 1))]) fun L19 =>
                                      Proofs.Ytflhogapjmdkaaa.X.f15_l11 k j11 l0 l1 l2 (IntKind.wrap IntKind.i64 (n3 + 1)) L19)
                          (Proofs.Ytflhogapjmdkaaa.X.f15_l11 k j11 l0 l1 l2 (IntKind.wrap IntKind.i64 (n3 + 1)) L11))
        (obind (idx l0 n3 3) fun a20 =>
          obind (Option.bind (cell L (Addr.add a20 1)) (asI IntKind.i64)) fun n21 =>
            lif (decide (n21 ≥ 0))
              (obind (idx l0 n3 3) fun a22 =>
                obind (Option.bind (cell L (Addr.add a22 1)) (asI IntKind.i64)) fun n23 =>
                  obind (idx l2 n23 1) fun a24 =>
                    obind (Option.bind (cell L a24) (asI IntKind.i64)) fun n25 =>
                      obind (idx l2 n23 1) fun a26 =>
                        obind (stores L a26 [Value.int IntKind.i64 (IntKind.wrap IntKind.i64 (n25 + 1))]) fun L27 =>
                          Proofs.Ytflhogapjmdkaaa.X.f15_l11 k j11 l0 l1 l2 (IntKind.wrap IntKind.i64 (n3 + 1)) L27)
              (Proofs.Ytflhogapjmdkaaa.X.f15_l11 k j11 l0 l1 l2 (IntKind.wrap IntKind.i64 (n3 + 1)) L)))
  (lbind (Proofs.Ytflhogapjmdkaaa.X.f29 k l1 L) fun v28 L29 =>
    obind (tupL v28) fun x30 =>
      uncons x30 fun v31 vs32 =>
        obind (asSl v31) fun l33 =>
          uncons vs32 fun v34 vs35 =>
            obind (asB v34) fun b36 =>
              uncons vs35 fun v37 vs38 =>
                obind (asI IntKind.i64 v37) fun n39 =>
                  nilL vs38
                    (lbind (Proofs.Ytflhogapjmdkaaa.X.f29 k l2 L29) fun v40 L41 =>
                      obind (tupL v40) fun x42 =>
                        uncons x42 fun v43 vs44 =>
                          obind (asSl v43) fun l45 =>
                            uncons vs44 fun v46 vs47 =>
                              obind (asB v46) fun b48 =>
                                uncons vs47 fun v49 vs50 =>
                                  obind (asI IntKind.i64 v49) fun n51 =>
                                    nilL vs50
                                      (lbind (Proofs.Ytflhogapjmdkaaa.X.f30 k l33 L41) fun v52 L53 =>
                                        obind (tupL v52) fun x54 =>
                                          uncons x54 fun v55 vs56 =>
                                            obind (asSl v55) fun l57 =>
                                              uncons vs56 fun v58 vs59 =>
                                                obind (asI IntKind.i64 v58) fun n60 =>
                                                  nilL vs59
                                                    (lbind (Proofs.Ytflhogapjmdkaaa.X.f30 k l45 L53) fun v61 L62 =>
                                                      obind (tupL v61) fun x63 =>
                                                        uncons x63 fun v64 vs65 =>
                                                          obind (asSl v64) fun l66 =>
                                                            uncons vs65 fun v67 vs68 =>
                                                              obind (asI IntKind.i64 v67) fun n69 => nilL vs68 (Proofs.Ytflhogapjmdkaaa.X.f15_l23 k k l0 l33 l45 l57 l66 (Sl.mk none 0 0) 0 L62))))) := by kernel_rfl
theorem f15_l23_eq (k : Nat) (j23 : Nat) (l0 : Sl) (l1 : Sl) (l2 : Sl) (l3 : Sl) (l4 : Sl) (l5 : Sl) (n6 : Int) (L : LHeap) : Proofs.Ytflhogapjmdkaaa.X.f15_l23 k (j23 + 1) l0 l1 l2 l3 l4 l5 n6 L =
  lif (decide (n6 < (↑l0.n : Int)))
  (obind (idx l0 n6 3) fun a7 =>
    obind (Option.bind (cell L (Addr.add a7 0)) (asI IntKind.i64)) fun n8 =>
      lif (decide (n8 ≥ 0))
        (obind (idx l0 n6 3) fun a9 =>
          obind (Option.bind (cell L (Addr.add a9 0)) (asI IntKind.i64)) fun n10 =>
            obind (idx l3 n10 1) fun a11 =>
              obind (Option.bind (cell L a11) (asI IntKind.u32)) fun n12 =>
                obind (idx l0 n6 3) fun a13 =>
                  obind (Option.bind (cell L (Addr.add a13 0)) (asI IntKind.i64)) fun n14 =>
                    obind (idx l1 n14 1) fun a15 =>
                      obind (Option.bind (cell L a15) (asI IntKind.i64)) fun n16 =>
                        lbindR (Proofs.Ytflhogapjmdkaaa.X.f31 k n12 n16 L) fun v17 L18 =>
                          obind (asS v17) fun s19 =>
                            obind (app L18 5 Proofs.Try.prog.types[5].size Proofs.Try.prog.types[5].bytes l5 (ByteArray.size s19) (byteCells (ByteArray.extract s19 0 (ByteArray.size s19)))) fun x20 =>
                              obind (idx l0 n6 3) fun a21 =>
                                obind (Option.bind (cell x20.snd (Addr.add a21 1)) (asI IntKind.i64)) fun n22 =>
                                  lif (decide (n22 ≥ 0))
                                    (obind (idx l0 n6 3) fun a23 =>
                                      obind (Option.bind (cell x20.snd (Addr.add a23 1)) (asI IntKind.i64)) fun n24 =>
                                        obind (idx l4 n24 1) fun a25 =>
                                          obind (Option.bind (cell x20.snd a25) (asI IntKind.u32)) fun n26 =>
                                            obind (idx l0 n6 3) fun a27 =>
                                              obind (Option.bind (cell x20.snd (Addr.add a27 1)) (asI IntKind.i64)) fun n28 =>
                                                obind (idx l2 n28 1) fun a29 =>
                                                  obind (Option.bind (cell x20.snd a29) (asI IntKind.i64)) fun n30 =>
                                                    lbindR (Proofs.Ytflhogapjmdkaaa.X.f31 k n26 n30 x20.snd) fun v31 L32 =>
                                                      obind (asS v31) fun s33 =>
                                                        obind
                                                          (app L32 5 Proofs.Try.prog.types[5].size Proofs.Try.prog.types[5].bytes x20.fst (ByteArray.size s33)
                                                            (byteCells (ByteArray.extract s33 0 (ByteArray.size s33))))
                                                          fun x34 =>
                                                          obind (idx l0 n6 3) fun a35 =>
                                                            obind (Option.bind (cell x34.snd (Addr.add a35 2)) asS) fun s36 =>
                                                              obind
                                                                (app x34.snd 5 Proofs.Try.prog.types[5].size Proofs.Try.prog.types[5].bytes x34.fst (ByteArray.size s36)
                                                                  (byteCells (ByteArray.extract s36 0 (ByteArray.size s36))))
                                                                fun x37 => Proofs.Ytflhogapjmdkaaa.X.f15_l23 k j23 l0 l1 l2 l3 l4 x37.fst (IntKind.wrap IntKind.i64 (n6 + 1)) x37.snd)
                                    (obind (idx l0 n6 3) fun a38 =>
                                      obind (Option.bind (cell x20.snd (Addr.add a38 2)) asS) fun s39 =>
                                        obind
                                          (app x20.snd 5 Proofs.Try.prog.types[5].size Proofs.Try.prog.types[5].bytes x20.fst (ByteArray.size s39)
                                            (byteCells (ByteArray.extract s39 0 (ByteArray.size s39))))
                                          fun x40 => Proofs.Ytflhogapjmdkaaa.X.f15_l23 k j23 l0 l1 l2 l3 l4 x40.fst (IntKind.wrap IntKind.i64 (n6 + 1)) x40.snd))
        (obind (idx l0 n6 3) fun a41 =>
          obind (Option.bind (cell L (Addr.add a41 1)) (asI IntKind.i64)) fun n42 =>
            lif (decide (n42 ≥ 0))
              (obind (idx l0 n6 3) fun a43 =>
                obind (Option.bind (cell L (Addr.add a43 1)) (asI IntKind.i64)) fun n44 =>
                  obind (idx l4 n44 1) fun a45 =>
                    obind (Option.bind (cell L a45) (asI IntKind.u32)) fun n46 =>
                      obind (idx l0 n6 3) fun a47 =>
                        obind (Option.bind (cell L (Addr.add a47 1)) (asI IntKind.i64)) fun n48 =>
                          obind (idx l2 n48 1) fun a49 =>
                            obind (Option.bind (cell L a49) (asI IntKind.i64)) fun n50 =>
                              lbindR (Proofs.Ytflhogapjmdkaaa.X.f31 k n46 n50 L) fun v51 L52 =>
                                obind (asS v51) fun s53 =>
                                  obind (app L52 5 Proofs.Try.prog.types[5].size Proofs.Try.prog.types[5].bytes l5 (ByteArray.size s53) (byteCells (ByteArray.extract s53 0 (ByteArray.size s53))))
                                    fun x54 =>
                                    obind (idx l0 n6 3) fun a55 =>
                                      obind (Option.bind (cell x54.snd (Addr.add a55 2)) asS) fun s56 =>
                                        obind
                                          (app x54.snd 5 Proofs.Try.prog.types[5].size Proofs.Try.prog.types[5].bytes x54.fst (ByteArray.size s56)
                                            (byteCells (ByteArray.extract s56 0 (ByteArray.size s56))))
                                          fun x57 => Proofs.Ytflhogapjmdkaaa.X.f15_l23 k j23 l0 l1 l2 l3 l4 x57.fst (IntKind.wrap IntKind.i64 (n6 + 1)) x57.snd)
              (obind (idx l0 n6 3) fun a58 =>
                obind (Option.bind (cell L (Addr.add a58 2)) asS) fun s59 =>
                  obind (app L 5 Proofs.Try.prog.types[5].size Proofs.Try.prog.types[5].bytes l5 (ByteArray.size s59) (byteCells (ByteArray.extract s59 0 (ByteArray.size s59)))) fun x60 =>
                    Proofs.Ytflhogapjmdkaaa.X.f15_l23 k j23 l0 l1 l2 l3 l4 x60.fst (IntKind.wrap IntKind.i64 (n6 + 1)) x60.snd)))
  (lbind (Proofs.Ytflhogapjmdkaaa.X.f32 k l1 L) fun v61 L62 =>
    obind (tupL v61) fun x63 =>
      uncons x63 fun v64 vs65 =>
        obind (asS v64) fun s66 =>
          uncons vs65 fun v67 vs68 =>
            obind (asI IntKind.i64 v67) fun n69 =>
              nilL vs68
                (lbind (Proofs.Ytflhogapjmdkaaa.X.f32 k l2 L62) fun v70 L71 =>
                  obind (tupL v70) fun x72 =>
                    uncons x72 fun v73 vs74 =>
                      obind (asS v73) fun s75 =>
                        uncons vs74 fun v76 vs77 =>
                          obind (asI IntKind.i64 v76) fun n78 =>
                            nilL vs77
                              (when (decide ((↑(ByteArray.size s66 + ByteArray.size s75) : Int) ≤ maxI))
                                (obind (bytesOf L71 l5) fun s79 =>
                                  lbind (Proofs.Ytflhogapjmdkaaa.X.f33 k s79 L71) fun v80 L81 =>
                                    obind (asS v80) fun s82 =>
                                      when (decide ((↑(ByteArray.size (s66 ++ s75) + ByteArray.size s82) : Int) ≤ maxI))
                                        (some (LR.ret (Value.tuple #[Value.string (s66 ++ s75 ++ s82), Value.int IntKind.i64 0]) L81)))))) := by kernel_rfl
end Go.Proofs.Ytflhogapjmdkaaa.X
end

section
set_option maxRecDepth 100000
set_option linter.unusedVariables false
namespace Go.Proofs.Ytflhogapjmdkaaa.X
open Go Go.Rlm
theorem size100 : Proofs.Try.prog.types[134].size = 3 := by kernel_rfl
theorem bytes100 : Proofs.Try.prog.types[134].bytes = 40 := by kernel_rfl
abbrev Ent := Int × Sl × Bool
def entCells : List Ent → List Value
  | [] => []
  | p :: ps => iV p.1 :: slV p.2.1 :: .bool p.2.2 :: entCells ps
@[simp] theorem entCells_length (ps : List Ent) : (entCells ps).length = ps.length * 3 := by
  induction ps with
  | nil => rfl
  | cons p ps ih => simp [entCells, ih]; omega
theorem entCells_get {ps : List Ent} {i : Nat} {p : Ent} (h : ps[i]? = some p) : (entCells ps)[i * 3]? = some (iV p.1) ∧ (entCells ps)[i * 3 + 1]? = some (slV p.2.1) ∧ (entCells ps)[i * 3 + 2]? = some (.bool p.2.2) := by
  induction ps generalizing i with
  | nil => simp at h
  | cons q ps ih =>
    cases i with
    | zero => simp at h; subst h; simp [entCells]
    | succ i =>
      have := ih (i := i) (by simpa using h)
      rw [show (i + 1) * 3 = i * 3 + 1 + 1 + 1 by omega]
      simpa [entCells] using this
theorem entCells_append (a b : List Ent) : entCells (a ++ b) = entCells a ++ entCells b := by
  induction a with
  | nil => rfl
  | cons p a ih => simp [entCells, ih]
theorem entCells_set {ps : List Ent} {i : Nat} {p : Ent} (h : ps[i]? = some p) (g : Bool) : (entCells ps).set (i * 3 + 2) (.bool g) = entCells (ps.set i (p.1, p.2.1, g)) := by
  induction ps generalizing i with
  | nil => simp at h
  | cons q ps ih =>
    cases i with
    | zero => simp at h; subst h; simp [entCells]
    | succ i =>
      have := ih (i := i) (by simpa using h)
      rw [show (i + 1) * 3 + 2 = i * 3 + 2 + 1 + 1 + 1 by omega]
      simp [entCells, this]
theorem OZ.blk {L : LHeap} {s : Sl} {vs : List Value} {e : TypeId} {z : Nat} {F : List Nat} (h : OZ L s vs e z F) (h0 : 0 < s.n) :
    ∃ c, F = [c] ∧ L[c]? = some (.cells vs e false z) ∧ (∀ i, i < s.n → idx s (i : Int) z = some ⟨c, i * z, none⟩) ∧ ∀ L' vs', L'[c]? = some (.cells vs' e false z) → vs'.length = vs.length → OZ L' s vs' e z F := by
  obtain ⟨h1, h2, ⟨rfl, _, _⟩ | ⟨c, h3, h4, rfl⟩⟩ := h
  · simp at h0
  · refine ⟨c, rfl, h4, fun i hi => ?_, fun L' vs' hb hl => ⟨by omega, h2, .inr ⟨c, h3, hb, rfl⟩⟩⟩
    rw [h3, idx_of hi]
    simp
theorem copy_os {L : LHeap} {vs : List Value} (e : TypeId) (bytes : Nat) (hne : vs ≠ []) (hb : vs.length * bytes ≤ 2 ^ 47) (hl : vs.length ≤ 2 ^ 62) :
    ∃ s' L' F', Rlm.app (L ++ [LBlk.cells [] e false 0]) e 1 bytes ⟨some ⟨L.length, 0, none⟩, 0, 0⟩ vs.length vs = some (s', L') ∧ OS L' s' vs e F' ∧ Step [] L F' L' := by
  simp only [Rlm.app, Nat.zero_add]
  rw [show Nat.blt 0 OPEN = true from rfl, cond_true]
  cases vs with
  | nil => exact absurd rfl hne
  | cons v vs =>
    have hf : Nat.ble (v :: vs).length 0 = false := rfl
    rw [hf, Nat.ble_eq_true_of_le hb, Nat.ble_eq_true_of_le hl]
    simp only [cond_false, Bool.and_self, cond_true, srcCells, Nat.beq_refl, Option.bind_eq_bind, Option.bind_some, List.nil_append]
    refine ⟨⟨some ⟨(L ++ [LBlk.cells [] e false 0]).length, 0, none⟩, (v :: vs).length, OPEN⟩, _, [(L ++ [LBlk.cells [] e false 0]).length], rfl, .inr ⟨_, rfl, get_new, rfl⟩, ?_⟩
    exact (Step.push [] L _).trans (.new [] _ _)
/-- The reference's forest. -/
def Ents (L : LHeap) (l2 : Sl) (es : List Ent) (ks : List Nat) (ts : List HT) (Ge S : List Nat) : Prop :=
  OZ L l2 (entCells es) 134 3 Ge ∧ ks.Pairwise (· < ·) ∧ (∀ k e, es[k]? = some e → (e.2.2 = false ↔ k ∈ ks)) ∧ (∀ k ∈ ks, k < es.length) ∧ ks.length = ts.length ∧
    (∀ (p k : Nat) (t : HT), ks[p]? = some k → ts[p]? = some t → ∃ (s : Sl) (A : List Nat), es[k]? = some ((t.wt : Int), s, false) ∧ Rd L s (t.syms.map kV) A ∧ ∀ i ∈ A, i ∈ S) ∧ Within S L ∧ Apart Ge S
theorem dec_t {P : Prop} {i : Decidable P} (h : P) : @decide P i = true := by simp [h]
theorem lif_t {P : Prop} {i : Decidable P} (h : P) {x y z : R} (e : x = z) : lif (@decide P i) x y = z := by rw [dec_t h]; exact e
theorem dec_f {P : Prop} {i : Decidable P} (h : ¬ P) : @decide P i = false := by simp [h]
def posOf (ks : List Nat) (o : Option Nat) : Int := match o with | some q => ((ks.getD q 0 : Nat) : Int) | none => -1
theorem scan {k j12 : Nat} {l1 l2 : Sl} {n3 : Int} {es : List Ent} {ks : List Nat} {ts : List HT} {Ge S : List Nat} {L : LHeap} (h : Ents L l2 es ks ts Ge S) (hes : es.length < 2 ^ 40) :
    ∀ (m i p j : Nat), i + m = es.length → m < j → p ≤ ks.length → (∀ q, q < p → ks.getD q 0 < i) → (∀ q, p ≤ q → q < ks.length → i ≤ ks.getD q 0) →
      f61_l15 k j12 j l1 l2 n3 (posOf ks (twoTo (ts.map HT.wt) p).1) (posOf ks (twoTo (ts.map HT.wt) p).2) (i : Int) L =
        f61_l15 k j12 (j - m) l1 l2 n3 (posOf ks (twoTo (ts.map HT.wt) ts.length).1) (posOf ks (twoTo (ts.map HT.wt) ts.length).2) (es.length : Int) L := by
  obtain ⟨h1, h2, h3, h4, h5, h6, h7, h8⟩ := h
  have hn : l2.n = es.length := by have := h1.1; simp at this; omega
  have hd : ∀ q, (hq : q < ks.length) → ks.getD q 0 = ks[q] := fun q hq => by rw [List.getD_eq_getElem?_getD, List.getElem?_eq_getElem hq]; rfl
  have wgt : ∀ q, (hq : q < ks.length) → ∃ c, idx l2 ((ks.getD q 0 : Nat) : Int) 3 = some ⟨c, ks.getD q 0 * 3, none⟩ ∧ cell L ⟨c, ks.getD q 0 * 3 + 0, none⟩ = some (.int .i64 ((ts.map HT.wt).getD q 0 : Nat)) := by
    intro q hq
    obtain ⟨s, A, e1, _, _⟩ := h6 q ks[q] ts[q] (List.getElem?_eq_getElem hq) (List.getElem?_eq_getElem (by omega))
    have hlt := h4 _ (List.getElem_mem hq)
    obtain ⟨c, c1, c2⟩ := h1.get (i := ks[q]) (by omega)
    refine ⟨c, by rw [hd q hq]; exact c1, ?_⟩
    rw [hd q hq, c2 L (fun _ _ => rfl), Nat.add_zero, (entCells_get e1).1, wt_getD ts q (by omega), List.getD_eq_getElem?_getD, List.getElem?_eq_getElem (by omega)]
    rfl
  intro m
  induction m with
  | zero =>
    intro i p j hi hj hp hlo hhi
    obtain rfl : i = es.length := by omega
    have : p = ts.length := by
      rcases Nat.lt_or_ge p ks.length with h | h
      · have := hhi p (Nat.le_refl _) h
        rw [hd p h] at this
        have := h4 _ (List.getElem_mem h)
        omega
      · omega
    rw [this]
    rfl
  | succ m ih =>
    intro i p j hi hj hp hlo hhi
    obtain ⟨j, rfl⟩ : ∃ j', j = j' + 1 := ⟨j - 1, by omega⟩
    have hiz : i < es.length := by omega
    obtain ⟨c, c1, c2⟩ := h1.get (i := i) (by omega)
    have hget : es[i]? = some es[i] := List.getElem?_eq_getElem hiz
    obtain ⟨_, _, g3⟩ := entCells_get hget
    have cc : cell L ⟨c, i * 3 + 2, none⟩ = some (.bool es[i].2.2) := by rw [c2 L (fun _ _ => rfl), g3]
    rw [f61_l15_eq, decide_eq_true (by omega), lif_true, c1, obind_some]
    simp only [mk_add, cc, Option.bind_some, asB_bool, obind_some]
    rw [wI64 (n := (i : Int) + 1) (by omega) (by omega), show j + 1 - (m + 1) = j - m by omega]
    by_cases hg : es[i].2.2 = false
    · have hik := (h3 i es[i] hget).1 hg
      -- the place is p
      have hpk : p < ks.length ∧ ks.getD p 0 = i := by
        obtain ⟨q, hq, hqe⟩ := List.getElem_of_mem hik
        have h9 : p ≤ q := by
          rcases Nat.lt_or_ge q p with hh | hh
          · have := hlo q hh; rw [hd q hq] at this; omega
          · exact hh
        have hpl : p < ks.length := by omega
        have h10 := hhi p (Nat.le_refl _) hpl
        rcases Nat.lt_or_ge p q with hh | hh
        · have := List.pairwise_iff_getElem.1 h2 p q hpl hq hh
          rw [hd p hpl] at h10
          omega
        · obtain rfl : p = q := by omega
          exact ⟨hpl, by rw [hd p hpl]; exact hqe⟩
      obtain ⟨hpl, hpi⟩ := hpk
      have next := ih (i + 1) (p + 1) j (by omega) (by omega) (by omega) (fun q hq => by
        rcases Nat.lt_or_ge q p with hh | hh
        · have := hlo q hh; omega
        · obtain rfl : q = p := by omega
          omega) (fun q hq hql => by
        have := List.pairwise_iff_getElem.1 h2 p q hpl hql (by omega)
        rw [hd q hql]
        rw [hd p hpl] at hpi
        omega)
      have hst : twoTo (ts.map HT.wt) (p + 1) = twoStep (ts.map HT.wt) p (twoTo (ts.map HT.wt) p) := rfl
      have hspec := twoTo_spec (ts.map HT.wt) p
      rw [hg, lif_false]
      obtain ⟨wp, wp1, wp2⟩ := wgt p hpl
      rw [hpi] at wp1 wp2
      obtain rfl : wp = c := by have := wp1.symm.trans c1; simpa using this
      rcases Nat.lt_or_ge p 1 with hp0 | hp1
      · obtain rfl : p = 0 := by omega
        have e0 : twoTo (ts.map HT.wt) 0 = (none, none) := rfl
        rw [hst, e0] at next
        rw [e0]
        simp only [twoStep] at next
        simp only [posOf] at next
        rw [hpi] at next
        exact lif_t (by simp [posOf]) next
      · have hab : ∃ a ob, twoTo (ts.map HT.wt) p = (some a, ob) ∧ a < p ∧ (∀ b, ob = some b → b < p) := by
          rcases Nat.lt_or_ge p 2 with h | h
          · exact ⟨0, none, hspec.2.1 (by omega), by omega, fun b hb => by cases hb⟩
          · obtain ⟨a, b, e, f, s⟩ := hspec.2.2 h
            exact ⟨a, some b, e, f.1, fun b' hb => by cases hb; exact s.1⟩
        obtain ⟨a, ob, e0, ha, hob⟩ := hab
        obtain ⟨wa, wa1, wa2⟩ := wgt a (by omega)
        rw [hst, e0] at next
        rw [e0]
        simp only [twoStep] at next
        have pa : posOf ks (some a) = ((ks.getD a 0 : Nat) : Int) := rfl
        rw [pa, decide_eq_false (show ¬ (((ks.getD a 0 : Nat) : Int) < 0) by omega), lif_false, wp2, wa1]
        simp only [mk_add, wa2, Option.bind_some, asI_int, obind_some]
        by_cases hw : (ts.map HT.wt).getD p 0 < (ts.map HT.wt).getD a 0
        · rw [decide_eq_true (show (((ts.map HT.wt).getD p 0 : Nat) : Int) < (((ts.map HT.wt).getD a 0 : Nat) : Int) by omega), lif_true]
          rw [if_pos hw] at next
          simp only [posOf] at next
          rw [hpi] at next
          exact next
        · rw [decide_eq_false (show ¬ ((((ts.map HT.wt).getD p 0 : Nat) : Int) < (((ts.map HT.wt).getD a 0 : Nat) : Int)) by omega), lif_false]
          rw [if_neg hw] at next
          cases ob with
          | none =>
            simp only [posOf] at next
            rw [hpi] at next
            exact lif_t (by simp [posOf]) next
          | some b =>
            obtain ⟨wb, wb1, wb2⟩ := wgt b (by have := hob b rfl; omega)
            have pb : posOf ks (some b) = ((ks.getD b 0 : Nat) : Int) := rfl
            rw [pb, decide_eq_false (show ¬ (((ks.getD b 0 : Nat) : Int) < 0) by omega), lif_false]
            simp only [wp2, wb1, obind_some, mk_add, wb2, Option.bind_some, asI_int]
            simp only at next
            by_cases hw2 : (ts.map HT.wt).getD p 0 < (ts.map HT.wt).getD b 0
            · rw [decide_eq_true (show (((ts.map HT.wt).getD p 0 : Nat) : Int) < (((ts.map HT.wt).getD b 0 : Nat) : Int) by omega), lif_true]
              rw [if_pos hw2] at next
              simp only [posOf] at next
              rw [hpi] at next
              exact next
            · rw [decide_eq_false (show ¬ ((((ts.map HT.wt).getD p 0 : Nat) : Int) < (((ts.map HT.wt).getD b 0 : Nat) : Int)) by omega), lif_false]
              rw [if_neg hw2] at next
              exact next
    · have hgt : es[i].2.2 = true := by simpa using hg
      have hnk : i ∉ ks := fun hh => hg ((h3 i es[i] hget).2 hh)
      rw [hgt, lif_true]
      refine ih (i + 1) p j (by omega) (by omega) hp (fun q hq => by have := hlo q hq; omega) (fun q hq hql => ?_)
      have h10 := hhi q hq hql
      rcases Nat.eq_or_lt_of_le h10 with hh | hh
      · exact absurd (List.getElem_mem hql) (by rw [← hd q hql, ← hh]; exact hnk)
      · omega
theorem inc_loop {k j12 : Nat} {l1 l2 l6 : Sl} {n3 n4 n5 : Int} {is : List Nat} {A Fo : List Nat} {out : List Int} {B : Int} (his : ∀ i ∈ is, i < out.length) (hd : is.Nodup) (hB : ∀ z ∈ out, 0 ≤ z ∧ z < B) (hB2 : B < 2 ^ 40) (hlen : is.length < 2 ^ 40) (hA : Apart Fo A) :
    ∀ (m q j : Nat) (L : LHeap), q + m = is.length → m < j → Rd L l6 (is.map kV) A → WS L l1 ((incAll (is.take q) out).map iV) 3 Fo →
      ∃ L', f61_l27 k j12 j l1 l2 n3 n4 n5 l6 (q : Int) L = f61_l27 k j12 (j - m) l1 l2 n3 n4 n5 l6 (is.length : Int) L' ∧ WS L' l1 ((incAll is out).map iV) 3 Fo ∧ Step Fo L Fo L' := by
  intro m
  induction m with
  | zero =>
    intro q j L hq hj hr hw
    obtain rfl : q = is.length := by omega
    rw [List.take_length] at hw
    exact ⟨L, rfl, hw, .refl _ _⟩
  | succ m ih =>
    intro q j L hq hj hr hw
    obtain ⟨j, rfl⟩ : ∃ j', j = j' + 1 := ⟨j - 1, by omega⟩
    have hql : q < is.length := by omega
    have hn := hr.len
    simp only [List.length_map] at hn
    obtain ⟨a, a1, a2⟩ := hr.here (i := q) (v := kV is[q]) (by simp [hql])
    have hio := his _ (List.getElem_mem hql)
    have htk : is.take (q + 1) = is.take q ++ [is[q]] := by rw [List.take_add_one, List.getElem?_eq_getElem hql]; rfl
    have hd2 : (is.take (q + 1)).Nodup := hd.sublist (List.take_sublist _ _)
    rw [htk] at hd2
    obtain ⟨d1, _, d3⟩ := List.nodup_append.1 hd2
    have hz : (incAll (is.take q) out)[is[q]]? = some out[is[q]] := by
      have := incAll_get d1 (List.getElem?_eq_getElem hio)
      rw [if_neg (fun h => d3 _ h _ (by simp) rfl)] at this
      exact this
    have hzb := hB _ (List.getElem_mem hio)
    obtain ⟨b, b1, b2⟩ := hw.rd.here (i := is[q]) (v := iV out[is[q]]) (by rw [List.getElem?_map, hz]; rfl)
    obtain ⟨b', L1, c1, c2, c3, c4⟩ := hw.put (i := is[q]) (by simpa using hio) (iV (out[is[q]] + 1))
    obtain rfl : b = b' := Option.some.inj (b1.symm.trans c1)
    have hinc : (incAll (is.take q) out).set is[q] (out[is[q]] + 1) = incAll (is.take (q + 1)) out := by
      rw [htk]
      simp only [incAll, List.foldl_append, List.foldl_cons, List.foldl_nil]
      rw [show List.foldl Go.Rlm.inc out (is.take q) = incAll (is.take q) out from rfl]
      unfold Go.Rlm.inc
      rw [List.getD_eq_getElem?_getD, hz]
      rfl
    rw [← List.map_set, hinc] at c3
    obtain ⟨L2, e1, e2, e3⟩ := ih (q + 1) j L1 (by omega) (by omega) (hr.mono (c4.others hr.within hA)) c3
    refine ⟨L2, ?_, e2, c4.trans e3⟩
    rw [show j + 1 - (m + 1) = j - m by omega, ← e1, f61_l27_eq, decide_eq_true (by omega)]
    have c2 : stores L b [Value.int .i64 (out[is[q]] + 1)] = some L1 := c2
    simp only [lif_true, a1, a2, kV, obind_some, Option.bind_some, asI_int, b1, b2, iV]
    rw [wI64 (n := out[is[q]] + 1) (by omega) (by omega), wI64 (n := (q : Int) + 1) (by omega) (by omega), c2]
    rfl
theorem mem_erase {ks : List Nat} (h : ks.Pairwise (· < ·)) {a : Nat} (ha : a < ks.length) (x : Nat) : x ∈ ks.eraseIdx a ↔ x ∈ ks ∧ x ≠ ks.getD a 0 := by
  have e : ks.getD a 0 = ks[a] := by rw [List.getD_eq_getElem?_getD, List.getElem?_eq_getElem ha]; rfl
  rw [List.mem_eraseIdx_iff_getElem, e]
  constructor
  · rintro ⟨i, hi, hne, rfl⟩
    refine ⟨List.getElem_mem hi, fun hh => ?_⟩
    rcases Nat.lt_or_gt_of_ne hne with hl | hl
    · have := List.pairwise_iff_getElem.1 h i a hi ha hl; omega
    · have := List.pairwise_iff_getElem.1 h a i ha hi hl; omega
  · rintro ⟨hm, hne⟩
    obtain ⟨i, hi, rfl⟩ := List.getElem_of_mem hm
    exact ⟨i, hi, fun hh => hne (by subst hh; rfl), rfl⟩
theorem merge1 {k j N : Nat} {l1 l2 : Sl} {es : List Ent} {ks : List Nat} {ts : List HT} {Ge S Fo : List Nat} {L : LHeap} {out : List Int} {B : Int} (h : Ents L l2 es ks ts Ge S) (hw : WS L l1 (out.map iV) 3 Fo) (hFG : Apart Fo Ge) (hFS : Apart Fo S)
    (h2 : 2 ≤ ts.length) (hes : es.length < 2 ^ 30) (his : ∀ i ∈ allSyms ts, i < out.length) (hd : (allSyms ts).Nodup) (hsl : (allSyms ts).length < 2 ^ 30) (hts : ts.length < 2 ^ 30) (htot : total ts < 2 ^ 60) (hB : ∀ z ∈ out, 0 ≤ z ∧ z < B) (hB2 : B < 2 ^ 40)
    (hk : es.length + (allSyms ts).length + 10 ≤ k) :
    ∃ (l2' : Sl) (es' : List Ent) (ks' Ge' S' : List Nat) (L' : LHeap), f61_l12 k (j + 1) l1 l2 (ts.length : Int) L = f61_l12 k j l1 l2' ((ts.length - 1 : Nat) : Int) L' ∧ Ents L' l2' es' ks' (join ts) Ge' S' ∧
      WS L' l1 ((incAll ((pick ts).syms ++ (pick (rest ts)).syms) out).map iV) 3 Fo ∧ es'.length = es.length + 1 ∧ Apart Fo Ge' ∧ Apart Fo S' ∧ Step (Fo ++ Ge) L (Fo ++ Ge') L' := by
  have h' := h
  obtain ⟨h1, hk2, h3, h4, h5, h6, h7, h8⟩ := h
  have hn : l2.n = es.length := by have := h1.1; simp at this; omega
  have hne : ts ≠ [] := by intro h0; subst h0; simp at h2
  have hr1 := rest_length hne
  have hne2 : rest ts ≠ [] := by intro h0; rw [h0] at hr1; simp at hr1; omega
  have hla := least_lt hne
  have hlj := least_lt hne2
  -- the scan
  have hsc := scan (k := k) (j12 := j) (l1 := l1) (n3 := (ts.length : Int)) h' (by omega) es.length 0 0 k (by omega) (by omega) (by omega) (fun q hq => by omega) (fun q _ hq => by omega)
  rw [two_least h2] at hsc
  have hsc : f61_l15 k j k l1 l2 (ts.length : Int) (-1) (-1) 0 L = f61_l15 k j (k - es.length) l1 l2 (ts.length : Int) ((ks.getD (least ts) 0 : Nat) : Int) ((ks.getD (if least (rest ts) < least ts then least (rest ts) else least (rest ts) + 1) 0 : Nat) : Int) (es.length : Int) L := hsc
  -- the two places
  have ha0 : ks.getD (least ts) 0 = ks[least ts] := by rw [List.getD_eq_getElem?_getD, List.getElem?_eq_getElem (by omega)]; rfl
  have hka : ks[least ts]? = some (ks.getD (least ts) 0) := by rw [ha0]; exact List.getElem?_eq_getElem (by omega)
  generalize hb : (if least (rest ts) < least ts then least (rest ts) else least (rest ts) + 1) = b at *
  have hbl : b < ks.length := by rw [← hb]; split <;> omega
  have hba : b ≠ least ts := by rw [← hb]; split <;> omega
  have hkb : ks[b]? = some (ks.getD b 0) := by rw [List.getD_eq_getElem?_getD, List.getElem?_eq_getElem hbl]; rfl
  have hpa : ts[least ts]? = some (pick ts) := by rw [pick, List.getD_eq_getElem?_getD, List.getElem?_eq_getElem hla]; rfl
  have hpb : ts[b]? = some (pick (rest ts)) := by
    have e0 : (rest ts)[least (rest ts)]? = some (pick (rest ts)) := by rw [pick, List.getD_eq_getElem?_getD, List.getElem?_eq_getElem hlj]; rfl
    have e : (ts.eraseIdx (least ts))[least (rest ts)]? = some (pick (rest ts)) := e0
    rw [List.getElem?_eraseIdx] at e
    rw [← hb]
    split at e
    · rename_i hh; rw [if_pos hh]; exact e
    · rename_i hh; rw [if_neg hh]; exact e
  have hkb2 : (ks.eraseIdx (least ts)).getD (least (rest ts)) 0 = ks.getD b 0 := by rw [getD_erase, hb]
  obtain ⟨sa, A1, ea, ra, sA1⟩ := h6 _ _ _ hka hpa
  obtain ⟨sb, A2, eb, rb, sA2⟩ := h6 _ _ _ hkb hpb
  have hna : ks.getD b 0 ≠ ks.getD (least ts) 0 := by
    rw [ha0]
    have hb0 : ks.getD b 0 = ks[b] := by rw [List.getD_eq_getElem?_getD, List.getElem?_eq_getElem hbl]; rfl
    rw [hb0]
    rcases Nat.lt_or_gt_of_ne hba with hl | hl
    · have := List.pairwise_iff_getElem.1 hk2 b (least ts) hbl (by omega) hl; omega
    · have := List.pairwise_iff_getElem.1 hk2 (least ts) b (by omega) hbl hl; omega
  have hmem2 : ∀ x, x ∈ (ks.eraseIdx (least ts)).eraseIdx (least (rest ts)) ↔ x ∈ ks ∧ x ≠ ks.getD (least ts) 0 ∧ x ≠ ks.getD b 0 := by
    intro x
    rw [mem_erase (hk2.sublist (List.eraseIdx_sublist _ _)) (by rw [List.length_eraseIdx_of_lt (by omega)]; omega), mem_erase hk2 (by omega), hkb2]
    exact ⟨fun ⟨⟨p, q⟩, r⟩ => ⟨p, q, r⟩, fun ⟨p, q, r⟩ => ⟨⟨p, q⟩, r⟩⟩
  have hsort2 : ((ks.eraseIdx (least ts)).eraseIdx (least (rest ts))).Pairwise (· < ·) := (hk2.sublist (List.eraseIdx_sublist _ _)).sublist (List.eraseIdx_sublist _ _)
  have hlen2 : ((ks.eraseIdx (least ts)).eraseIdx (least (rest ts))).length = (rest (rest ts)).length := by
    rw [List.length_eraseIdx_of_lt (by rw [List.length_eraseIdx_of_lt (by omega)]; omega), List.length_eraseIdx_of_lt (by omega), rest_length hne2, hr1]; omega
  have hget2 : ∀ (p q : Nat) (t : HT), ((ks.eraseIdx (least ts)).eraseIdx (least (rest ts)))[p]? = some q → (rest (rest ts))[p]? = some t → ∃ p' : Nat, ks[p']? = some q ∧ ts[p']? = some t := by
    intro p q t e1 e2
    have step : ∀ {α β : Type} (xs : List α) (ys : List β) (i p : Nat) (x : α) (y : β), (xs.eraseIdx i)[p]? = some x → (ys.eraseIdx i)[p]? = some y → ∃ p' : Nat, xs[p']? = some x ∧ ys[p']? = some y := by
      intro α β xs ys i p x y g1 g2
      rw [List.getElem?_eraseIdx] at g1 g2
      split at g1
      · rename_i hh; rw [if_pos hh] at g2; exact ⟨p, g1, g2⟩
      · rename_i hh; rw [if_neg hh] at g2; exact ⟨p + 1, g1, g2⟩
    obtain ⟨p1, g1, g2⟩ := step _ _ _ _ _ _ e1 (show ((rest ts).eraseIdx (least (rest ts)))[p]? = some t from e2)
    exact step _ _ _ _ _ _ g1 (show (ts.eraseIdx (least ts))[p1]? = some t from g2)
  generalize (ks.eraseIdx (least ts)).eraseIdx (least (rest ts)) = ks2 at *
  generalize ks.getD (least ts) 0 = a' at *
  generalize ks.getD b 0 = b' at *
  have hal : a' < es.length := get_lt ea
  have hbl' : b' < es.length := get_lt eb
  -- the flags
  obtain ⟨c, rfl, hc, hidx, hback⟩ := OZ.blk h1 (by omega)
  have ia := hidx a' (by omega)
  have ib := hidx b' (by omega)
  have hcl : (entCells es).length = es.length * 3 := entCells_length _
  have f1 : stores L ⟨c, a' * 3 + 2, none⟩ [.bool true] = some (L.set c (.cells ((entCells es).set (a' * 3 + 2) (.bool true)) 134 false 3)) := stores_of hc (by simp; omega)
  rw [entCells_set ea] at f1
  have g1 : (L.set c (.cells (entCells (es.set a' (((pick ts).wt : Int), sa, true))) 134 false 3))[c]? = some (.cells (entCells (es.set a' (((pick ts).wt : Int), sa, true))) 134 false 3) := get_set_self hc
  have st1 : Step [c] L [c] (L.set c (.cells (entCells (es.set a' (((pick ts).wt : Int), sa, true))) 134 false 3)) := .set _ (by simp)
  generalize L.set c (.cells (entCells (es.set a' (((pick ts).wt : Int), sa, true))) 134 false 3) = L18 at *
  have eb2 : (es.set a' (((pick ts).wt : Int), sa, true))[b']? = some (((pick (rest ts)).wt : Int), sb, false) := by rw [List.getElem?_set_ne (Ne.symm hna), eb]
  have f2 : stores L18 ⟨c, b' * 3 + 2, none⟩ [.bool true] = some (L18.set c (.cells ((entCells (es.set a' (((pick ts).wt : Int), sa, true))).set (b' * 3 + 2) (.bool true)) 134 false 3)) := stores_of g1 (by simp; omega)
  rw [entCells_set eb2] at f2
  have ea2 : ((es.set a' (((pick ts).wt : Int), sa, true)).set b' (((pick (rest ts)).wt : Int), sb, true))[a']? = some (((pick ts).wt : Int), sa, true) := by rw [List.getElem?_set_ne hna, List.getElem?_set_self hal]
  have eb3 : ((es.set a' (((pick ts).wt : Int), sa, true)).set b' (((pick (rest ts)).wt : Int), sb, true))[b']? = some (((pick (rest ts)).wt : Int), sb, true) := by rw [List.getElem?_set_self (by simpa using hbl')]
  have eoth : ∀ q, q ≠ a' → q ≠ b' → ((es.set a' (((pick ts).wt : Int), sa, true)).set b' (((pick (rest ts)).wt : Int), sb, true))[q]? = es[q]? := fun q p1 p2 => by rw [List.getElem?_set_ne (Ne.symm p2), List.getElem?_set_ne (Ne.symm p1)]
  have el2 : ((es.set a' (((pick ts).wt : Int), sa, true)).set b' (((pick (rest ts)).wt : Int), sb, true)).length = es.length := by simp
  simp only at f1 f2
  generalize (es.set a' (((pick ts).wt : Int), sa, true)).set b' (((pick (rest ts)).wt : Int), sb, true) = es2 at *
  have g2 : (L18.set c (.cells (entCells es2) 134 false 3))[c]? = some (.cells (entCells es2) 134 false 3) := get_set_self g1
  have st2 : Step [c] L [c] (L18.set c (.cells (entCells es2) 134 false 3)) := st1.trans (.set _ (by simp))
  generalize L18.set c (.cells (entCells es2) 134 false 3) = L20 at *
  have hz20 : OZ L20 l2 (entCells es2) 134 3 [c] := hback L20 _ g2 (by simp [el2])
  obtain ⟨wa1, wa2, wa3⟩ := entCells_get ea2
  obtain ⟨wb1, wb2, wb3⟩ := entCells_get eb3
  have ra20 := ra.mono (st2.others ra.within fun i hi hj => h8 i hi (sA1 i hj))
  have rb20 := rb.mono (st2.others rb.within fun i hi hj => h8 i hi (sA2 i hj))
  have hw20 := hw.mono (st2.others hw.within hFG.symm)
  have hsub : (pick ts).syms.length + (pick (rest ts)).syms.length ≤ (allSyms ts).length := by
    have q1 := sum_rest (fun t => t.syms.length) hne
    have q2 := sum_rest (fun t => t.syms.length) hne2
    have q3 : ∀ us : List HT, (allSyms us).length = (us.map fun t => t.syms.length).sum := fun us => by unfold allSyms; rw [List.length_flatMap]
    rw [q3]
    omega
  have hsa := ra.len
  have hsb := rb.len
  simp only [List.length_map] at hsa hsb
  have hpos := height_syms (pick ts)
  -- the symbols
  obtain ⟨s1, L21, F1, c1, c2, c3⟩ := copy_os (L := L20) (vs := (pick ts).syms.map kV) 3 8 (by intro h0; have := congrArg List.length h0; simp at this; rw [this] at hpos; simp at hpos) (by simp; omega) (by simp; omega)
  have rb21 := rb20.mono (c3.others rb20.within (none_apart _))
  obtain ⟨s2, L22, F2, d1, d2, d3⟩ := c2.app ((pick (rest ts)).syms.map kV) 8 (by simp; omega) (by simp; omega)
  rw [← List.map_append] at d2
  have st3 : Step [] L20 F2 L22 := c3.trans d3
  have hw22 := hw20.mono (st3.others hw20.within (none_apart _))
  have hz21 := hz20.mono (c3.others hz20.within (none_apart _))
  have hz22 := hz20.mono (st3.others hz20.within (none_apart _))
  have apF2 : Apart Fo F2 := (st3.apart hw20.within (none_apart _)).symm
  have apG2 : Apart [c] F2 := (st3.apart hz20.within (none_apart _)).symm
  -- the counts
  have hp := join_perm h2
  have hdj : (allSyms (join ts)).Nodup := hp.nodup_iff.2 hd
  simp only [allSyms, join, List.flatMap_append, List.flatMap_cons, List.flatMap_nil, List.append_nil, HT.syms] at hdj
  obtain ⟨_, n2, _⟩ := List.nodup_append.1 hdj
  have hmemS : ∀ i ∈ (pick ts).syms ++ (pick (rest ts)).syms, i < out.length := fun i hi => by
    rcases List.mem_append.1 hi with hi | hi
    · exact his i (List.mem_flatMap.2 ⟨_, pick_mem hne, hi⟩)
    · exact his i (List.mem_flatMap.2 ⟨_, rest_sub (pick_mem hne2), hi⟩)
  obtain ⟨L23, e1, e2, e3⟩ := inc_loop (k := k) (j12 := j) (l2 := l2) (n3 := (ts.length : Int)) (n4 := (a' : Int)) (n5 := (b' : Int)) hmemS n2 hB hB2 (by simp; omega) apF2 ((pick ts).syms ++ (pick (rest ts)).syms).length 0 k L22 (by omega) (by simp; omega) d2.ws.rd (by simpa [incAll] using hw22)
  have hz23 := hz22.mono (e3.others hz22.within hFG)
  have d23 := d2.mono (e3.others d2.within apF2)
  -- the new one
  obtain ⟨l2', L24, Ge', p1, p2, p3, p4⟩ := (hz23.mono (L' := L23 ++ [LBlk.cells [iV (((pick ts).wt + (pick (rest ts)).wt : Nat) : Int), slV s2, .bool false] 134 false 0]) fun i hi => get_push (hz23.within i hi)).app [iV (((pick ts).wt + (pick (rest ts)).wt : Nat) : Int), slV s2, .bool false] 1 40 (by omega) rfl (by omega) (by omega)
  have st5 : Step [c] L23 Ge' L24 := (Step.push [c] L23 _).trans p4
  have hw24 := e2.mono (st5.others e2.within hFG.symm)
  have d24 := d23.mono (st5.others d23.within apG2)
  have hcell23 : entCells es2 ++ [iV (((pick ts).wt + (pick (rest ts)).wt : Nat) : Int), slV s2, .bool false] = entCells (es2 ++ [((((pick ts).wt + (pick (rest ts)).wt : Nat) : Int), s2, false)]) := by rw [entCells_append]; rfl
  rw [hcell23] at p2
  have wS2 : Within S L20 := st2.within h7
  have wS22 : Within S L22 := st3.within wS2
  have apS5 : Apart Ge' S := st5.apart (e3.within wS22) h8
  have stall : ∀ i ∈ S, L24[i]? = L[i]? := fun i hi => by
    rw [st5.others (e3.within wS22) h8 i hi, e3.others wS22 hFS i hi, st3.others wS2 (none_apart _) i hi, st2.others h7 h8 i hi]
  refine ⟨l2', es2 ++ [((((pick ts).wt + (pick (rest ts)).wt : Nat) : Int), s2, false)], ks2 ++ [es.length], Ge', S ++ F2, L24, ?_, ⟨p2, ?_, ?_, ?_, ?_, ?_, ?_, ?_⟩, hw24, by simp [el2], (st5.apart e2.within hFG.symm).symm, ?_, ?_⟩
  · -- the walk
    rw [f61_l12_eq, decide_eq_true (by omega)]
    obtain ⟨jj, hjj⟩ : ∃ jj, k - es.length = jj + 1 := ⟨k - es.length - 1, by omega⟩
    have hsl2 : ((pick ts).syms ++ (pick (rest ts)).syms).length < k := by simp; omega
    obtain ⟨jk, hjk⟩ : ∃ jk, k - ((pick ts).syms ++ (pick (rest ts)).syms).length = jk + 1 := ⟨k - ((pick ts).syms ++ (pick (rest ts)).syms).length - 1, by omega⟩
    have g20 : ∀ X : LBlk, (L20 ++ [X])[c]? = some (.cells (entCells es2) 134 false 3) := fun X => by rw [get_push (get_lt g2), g2]
    have g21 : L21[c]? = some (.cells (entCells es2) 134 false 3) := by rw [c3.others hz20.within (none_apart _) c (by simp), g2]
    have g22 : L22[c]? = some (.cells (entCells es2) 134 false 3) := by rw [st3.others hz20.within (none_apart _) c (by simp), g2]
    have g23 : L23[c]? = some (.cells (entCells es2) 134 false 3) := by rw [e3.others hz22.within hFG c (by simp), g22]
    have k1 : ∀ X : LBlk, cell (L20 ++ [X]) ⟨c, a' * 3 + 1, none⟩ = some (.slice sa.a sa.n sa.c) := fun X => by rw [cell_of (g20 X), wa2]; rfl
    have k2 : cell L20 ⟨c, a' * 3 + 1, none⟩ = some (.slice sa.a sa.n sa.c) := by rw [cell_of g2, wa2]; rfl
    have k3 : ∀ X : LBlk, cell (L20 ++ [X]) ⟨c, b' * 3 + 1, none⟩ = some (.slice sb.a sb.n sb.c) := fun X => by rw [cell_of (g20 X), wb2]; rfl
    have k4 : cell L20 ⟨c, b' * 3 + 1, none⟩ = some (.slice sb.a sb.n sb.c) := by rw [cell_of g2, wb2]; rfl
    have k5 : cell L21 ⟨c, b' * 3 + 1, none⟩ = some (.slice sb.a sb.n sb.c) := by rw [cell_of g21, wb2]; rfl
    have k6 : cell L23 ⟨c, a' * 3 + 0, none⟩ = some (.int .i64 ((pick ts).wt : Int)) := by rw [cell_of g23, Nat.add_zero, wa1]; rfl
    have k7 : cell L23 ⟨c, b' * 3 + 0, none⟩ = some (.int .i64 ((pick (rest ts)).wt : Int)) := by rw [cell_of g23, Nat.add_zero, wb1]; rfl
    have sA := (ra20.mono (L' := L20 ++ [LBlk.cells [] 3 false 0]) fun i hi => get_push (ra20.within i hi)).src
    have sB := rb21.src
    rw [List.length_map, ← hsa] at c1
    rw [List.length_map, ← hsb] at d1
    have hwt : (pick ts).wt + (pick (rest ts)).wt ≤ total ts := by
      have q1 := sum_rest HT.wt hne
      have q2 := sum_rest HT.wt hne2
      simp only [total]
      omega
    have ew : IntKind.wrap .i64 (((pick ts).wt : Int) + ((pick (rest ts)).wt : Int)) = (((pick ts).wt + (pick (rest ts)).wt : Nat) : Int) := by rw [wI64] <;> omega
    have et : IntKind.wrap .i64 ((ts.length : Int) - 1) = ((ts.length - 1 : Nat) : Int) := by rw [wI64] <;> omega
    have s2n := d2.len
    simp only [List.length_map] at s2n
    rw [lif_true, hsc, hjj, f61_l15_eq, decide_eq_false (by omega), lif_false]
    simp only [ia, ib, obind_some, mk_add, f1, f2, k1, k2, k3, k4, k5, Option.bind_some, asSl_slice, same_self, when_true, size3, bytes3, sA, sB, c1, d1]
    have e1 : f61_l27 k j k l1 l2 (ts.length : Int) (a' : Int) (b' : Int) s2 0 L22 = f61_l27 k j (k - ((pick ts).syms ++ (pick (rest ts)).syms).length) l1 l2 (ts.length : Int) (a' : Int) (b' : Int) s2 (((pick ts).syms ++ (pick (rest ts)).syms).length : Int) L23 := e1
    rw [e1, hjk, f61_l27_eq, decide_eq_false (by omega), lif_false]
    have p1 : Rlm.app (L23 ++ [LBlk.cells [Value.int .i64 (((pick ts).wt + (pick (rest ts)).wt : Nat) : Int), Value.slice s2.a s2.n s2.c, .bool false] 134 false 0]) 134 3 40 l2 1 [Value.int .i64 (((pick ts).wt + (pick (rest ts)).wt : Nat) : Int), Value.slice s2.a s2.n s2.c, .bool false] = some (l2', L24) := p1
    simp only [ia, ib, obind_some, mk_add, k6, k7, Option.bind_some, asI_int, ew, size100, bytes100, src_tri, p1, et]
  · exact List.pairwise_append.2 ⟨hsort2, List.pairwise_singleton _ _, fun x hx y hy => by simp only [List.mem_singleton] at hy; rw [hy]; exact h4 _ ((hmem2 x).1 hx).1⟩
  · intro q e he
    rw [List.mem_append, hmem2, List.mem_singleton]
    by_cases hq : q < es.length
    · rw [List.getElem?_append_left (by omega)] at he
      by_cases hqa : q = a'
      · subst hqa
        rw [ea2] at he
        cases he
        simp; omega
      · by_cases hqb : q = b'
        · subst hqb
          rw [eb3] at he
          cases he
          simp; omega
        · rw [eoth q hqa hqb] at he
          rw [h3 q e he]
          constructor
          · exact fun hh => .inl ⟨hh, hqa, hqb⟩
          · rintro (⟨hh, _⟩ | hh)
            · exact hh
            · omega
    · rw [List.getElem?_append_right (by omega)] at he
      have : q - es2.length = 0 := by
        rcases Nat.eq_zero_or_pos (q - es2.length) with h0 | h0
        · exact h0
        · rw [List.getElem?_eq_none (by simp; omega)] at he; cases he
      rw [this] at he
      simp at he
      subst he
      simp; omega
  · intro q hq
    rw [List.length_append, el2]
    rcases List.mem_append.1 hq with hq | hq
    · have := h4 _ ((hmem2 q).1 hq).1
      simp; omega
    · simp at hq
      simp; omega
  · rw [List.length_append, hlen2, join, List.length_append]; rfl
  · intro p q t hq ht
    by_cases hp : p < ks2.length
    · rw [List.getElem?_append_left hp] at hq
      rw [join, List.getElem?_append_left (by omega)] at ht
      obtain ⟨p', z1, z2⟩ := hget2 p q t hq ht
      obtain ⟨s, A, y1, y2, y3⟩ := h6 p' q t z1 z2
      obtain ⟨hqk, hqa, hqb⟩ := (hmem2 q).1 (List.mem_of_getElem? hq)
      refine ⟨s, A, ?_, y2.mono fun i hi => stall i (y3 i hi), fun i hi => List.mem_append.2 (.inl (y3 i hi))⟩
      rw [List.getElem?_append_left (by rw [el2]; exact h4 _ hqk), eoth q hqa hqb, y1]
    · rw [List.getElem?_append_right (by omega)] at hq
      rw [join, List.getElem?_append_right (by omega)] at ht
      have : p - ks2.length = 0 := by
        rcases Nat.eq_zero_or_pos (p - ks2.length) with h0 | h0
        · exact h0
        · rw [List.getElem?_eq_none (by simp; omega)] at hq; cases hq
      rw [this] at hq
      rw [← hlen2, this] at ht
      simp at hq ht
      subst hq; subst ht
      refine ⟨s2, F2, ?_, d24.ws.rd, fun i hi => List.mem_append.2 (.inr hi)⟩
      rw [List.getElem?_append_right (by omega), el2, Nat.sub_self]
      rfl
  · intro i hi
    rcases List.mem_append.1 hi with hi | hi
    · exact st5.within (e3.within wS22) i hi
    · exact d24.within i hi
  · intro i hi hj
    rcases List.mem_append.1 hj with hj | hj
    · exact apS5 i hi hj
    · exact (st5.apart d23.within apG2) i hi hj
  · intro i hi hj
    rcases List.mem_append.1 hj with hj | hj
    · exact hFS i hi hj
    · exact apF2 i hi hj
  · refine ⟨by have := st2.len; have := st3.len; have := e3.len; have := st5.len; omega, fun i hi hno => ?_, fun i hi => ?_⟩
    · have i1 := Nat.lt_of_lt_of_le hi st2.len
      have i2 := Nat.lt_of_lt_of_le i1 st3.len
      have i3 := Nat.lt_of_lt_of_le i2 e3.len
      simp only [List.mem_append, not_or] at hno
      rw [st5.keep i i3 hno.2, e3.keep i i2 hno.1, st3.keep i i1 (by simp), st2.keep i hi hno.2]
    · rcases List.mem_append.1 hi with hi | hi
      · exact .inl (List.mem_append.2 (.inl hi))
      · rcases st5.foot i hi with q | q
        · exact .inl (List.mem_append.2 (.inr q))
        · have := st2.len; have := st3.len; have := e3.len
          exact .inr (by omega)
theorem incAll_bound {is : List Nat} {out : List Int} {B : Int} (hd : is.Nodup) (hB : ∀ z ∈ out, 0 ≤ z ∧ z < B) : ∀ z ∈ incAll is out, 0 ≤ z ∧ z < B + 1 := by
  intro z hz
  obtain ⟨i, hi, rfl⟩ := List.getElem_of_mem hz
  have hio : i < out.length := by simpa using hi
  have h1 := incAll_get hd (List.getElem?_eq_getElem hio)
  rw [List.getElem?_eq_getElem hi] at h1
  have h2 := hB _ (List.getElem_mem hio)
  split at h1 <;> (have := Option.some.inj h1; omega)
theorem merge_all {k N : Nat} {l1 : Sl} {Fo : List Nat} : ∀ (m j : Nat) (l2 : Sl) (es : List Ent) (ks : List Nat) (ts : List HT) (Ge S : List Nat) (L : LHeap) (out : List Int) (B : Int), ts.length = m + 1 → m < j → Ents L l2 es ks ts Ge S → WS L l1 (out.map iV) 3 Fo →
    Apart Fo Ge → Apart Fo S → Laid N ts out → es.length + m < 2 ^ 30 → (∀ i ∈ allSyms ts, i < N) → (allSyms ts).Nodup → (allSyms ts).length < 2 ^ 30 → ts.length < 2 ^ 30 → total ts < 2 ^ 60 → (∀ z ∈ out, 0 ≤ z ∧ z < B) → B + (m : Int) < 2 ^ 40 → es.length + m + (allSyms ts).length + 10 ≤ k →
    ∃ (L' : LHeap) (out' : List Int), f61_l12 k j l1 l2 (ts.length : Int) L = some (.ret (.slice l1.a l1.n l1.c) L') ∧ WS L' l1 (out'.map iV) 3 Fo ∧ Laid N (joinAll m ts) out' ∧ Step (Fo ++ Ge) L Fo L' := by
  intro m
  induction m with
  | zero =>
    intro j l2 es ks ts Ge S L out B hm hj hE hw hFG hFS hL hes his hd hsl hts htot hB hB2 hk
    obtain ⟨j, rfl⟩ : ∃ j', j = j' + 1 := ⟨j - 1, by omega⟩
    refine ⟨L, out, ?_, hw, hL, ((Step.refl _ _).less fun i hi => .inl (List.mem_append.2 (.inl hi)))⟩
    rw [f61_l12_eq, decide_eq_false (by omega)]
    rfl
  | succ m ih =>
    intro j l2 es ks ts Ge S L out B hm hj hE hw hFG hFS hL hes his hd hsl hts htot hB hB2 hk
    obtain ⟨j, rfl⟩ : ∃ j', j = j' + 1 := ⟨j - 1, by omega⟩
    have h2 : 2 ≤ ts.length := by omega
    have hp := join_perm h2
    have hol := hL.1
    obtain ⟨l2', es', ks', Ge', S', L1, a1, a2, a3, a4, a5, a6, a7⟩ := merge1 (N := N) (k := k) (j := j) hE hw hFG hFS h2 (by omega) (by rw [hol]; exact his) hd hsl hts htot hB (by omega) (by omega)
    have hdj : (allSyms (join ts)).Nodup := hp.nodup_iff.2 hd
    have hdj2 := hdj
    simp only [allSyms, join, List.flatMap_append, List.flatMap_cons, List.flatMap_nil, List.append_nil, HT.syms] at hdj2
    obtain ⟨_, n2, _⟩ := List.nodup_append.1 hdj2
    have hjl : (join ts).length = m + 1 := by rw [join_length h2]; omega
    obtain ⟨L2, out', b1, b2, b3, b4⟩ := ih j l2' es' ks' (join ts) Ge' S' L1 _ (B + 1) hjl (by omega) a2 a3 a5 a6 (laid_join h2 hd hL) (by omega) (fun i hi => his i (hp.mem_iff.1 hi)) hdj (by rw [hp.length_eq]; exact hsl) (by omega) (by rw [join_total h2]; exact htot) (incAll_bound n2 hB) (by omega) (by rw [hp.length_eq]; omega)
    refine ⟨L2, out', ?_, b2, b3, a7.trans b4⟩
    rw [a1, ← b1, hjl, hm]
    rfl
theorem collectR {k : Nat} {l l1 : Sl} {fs : List Int} {A Fo : List Nat} (hn : l.n = fs.length) (hf : fs.length < 2 ^ 29) :
    ∀ (m i j : Nat) (l2 : Sl) (es : List Ent) (Ge S : List Nat) (L : LHeap), i + m = fs.length → m < j → Ents L l2 es (List.range es.length) (leavesFrom 0 (fs.take i)) Ge S → es.length = (leavesFrom 0 (fs.take i)).length → Rd L l (fs.map iV) A → Apart Ge A →
      ∃ (l2' : Sl) (es' : List Ent) (Ge' S' : List Nat) (L' : LHeap), f61_l4 k j l l1 l2 (i : Int) L = f61_l4 k (j - m) l l1 l2' (fs.length : Int) L' ∧ Ents L' l2' es' (List.range es'.length) (leavesFrom 0 fs) Ge' S' ∧ es'.length = (leavesFrom 0 fs).length ∧ Step Ge L Ge' L' ∧ ∀ i ∈ S', i ∈ S ∨ L.length ≤ i := by
  intro m
  induction m with
  | zero =>
    intro i j l2 es Ge S L hi hj hE hl hr hGA
    obtain rfl : i = fs.length := by omega
    rw [List.take_length] at hE hl
    exact ⟨l2, es, Ge, S, L, rfl, hE, hl, .refl _ _, fun i hi => .inl hi⟩
  | succ m ih =>
    intro i j l2 es Ge S L hi hj hE hl hr hGA
    obtain ⟨j, rfl⟩ : ∃ j', j = j' + 1 := ⟨j - 1, by omega⟩
    have hiz : i < fs.length := by omega
    obtain ⟨a, a1, a2⟩ := hr.here (i := i) (v := iV fs[i]) (by simp [hiz])
    have hsn : leavesFrom 0 (fs.take (i + 1)) = leavesFrom 0 (fs.take i) ++ (if fs[i] > 0 then [.leaf fs[i].toNat i] else []) := by
      rw [take_succ_int hiz, leavesFrom_snoc]
      simp [show min i fs.length = i by omega]
    have hll := leavesFrom_length (fs.take i) 0
    simp only [List.length_take] at hll
    rw [f61_l4_eq, decide_eq_true (by omega), show j + 1 - (m + 1) = j - m by omega]
    simp only [lif_true, a1, a2, iV, obind_some, Option.bind_some, asI_int]
    rw [wI64 (n := (i : Int) + 1) (by omega) (by omega)]
    by_cases h0 : fs[i] > 0
    · rw [if_pos h0] at hsn
      obtain ⟨h1, _, h3, _, _, h6, h7, h8⟩ := hE
      have hl2 : l2.n = es.length := by have := h1.1; simp at this; omega
      have st1 : Step Ge L Ge (L ++ [LBlk.cells [iV (i : Int)] 3 false 0]) := .push _ _ _
      have sx : WS (L ++ [LBlk.cells [iV (i : Int)] 3 false 0]) ⟨some ⟨L.length, 0, none⟩, 1, 1⟩ [iV (i : Int)] 3 [L.length] := .lit rfl
      have hsS : ∀ x ∈ S, (L ++ [LBlk.cells [iV (i : Int)] 3 false 0])[x]? = L[x]? := fun x hx => get_push (h7 x hx)
      have hwS : Within S (L ++ [LBlk.cells [iV (i : Int)] 3 false 0]) := st1.within h7
      have hr1 := hr.mono (st1.others hr.within hGA)
      have hgl : Apart Ge [L.length] := fun x hx hy => by simp at hy; subst hy; have := h1.within _ hx; omega
      have hll2 : ∀ X : LHeap, Within [L.length] ((L ++ [LBlk.cells [iV (i : Int)] 3 false 0]) ++ X) := fun X x hx => by simp at hx; simp; omega
      obtain ⟨l2', L2, Ge', p1, p2, p3, p4⟩ := ((h1.mono (L' := L ++ [LBlk.cells [iV (i : Int)] 3 false 0]) fun x hx => get_push (h1.within x hx)).mono (L' := L ++ [LBlk.cells [iV (i : Int)] 3 false 0] ++ [LBlk.cells [iV fs[i], slV ⟨some ⟨L.length, 0, none⟩, 1, 1⟩, .bool false] 134 false 0]) fun x hx => get_push (st1.within h1.within x hx)).app [iV fs[i], slV ⟨some ⟨L.length, 0, none⟩, 1, 1⟩, .bool false] 1 40 (by omega) rfl (by omega) (by omega)
      have st2 : Step Ge (L ++ [LBlk.cells [iV (i : Int)] 3 false 0]) Ge' L2 := (Step.push Ge _ _).trans p4
      have hgl1 : Within [L.length] (L ++ [LBlk.cells [iV (i : Int)] 3 false 0]) := by have := hll2 []; simpa using this
      have st : Step Ge L Ge' L2 := st1.trans st2
      have hce : entCells es ++ [iV fs[i], slV ⟨some ⟨L.length, 0, none⟩, 1, 1⟩, .bool false] = entCells (es ++ [(fs[i], ⟨some ⟨L.length, 0, none⟩, 1, 1⟩, false)]) := by rw [entCells_append]; rfl
      rw [hce] at p2
      have hE2 : Ents L2 l2' (es ++ [(fs[i], ⟨some ⟨L.length, 0, none⟩, 1, 1⟩, false)]) (List.range (es ++ [(fs[i], (⟨some ⟨L.length, 0, none⟩, 1, 1⟩ : Sl), false)]).length) (leavesFrom 0 (fs.take (i + 1))) Ge' (S ++ [L.length]) := by
        refine ⟨p2, List.pairwise_lt_range, fun q e he => ?_, fun q hq => by simpa using hq, by rw [hsn]; simp [hl], fun p q t hq ht => ?_, fun x hx => ?_, fun x hx hy => ?_⟩
        · have hq := get_lt he
          simp only [List.mem_range, hq, iff_true]
          by_cases hqe : q < es.length
          · rw [List.getElem?_append_left hqe] at he
            exact (h3 q e he).2 (by simpa using hqe)
          · have : q = es.length := by simp at hq; omega
            subst this
            rw [List.getElem?_append_right (Nat.le_refl _)] at he
            simp at he
            rw [← he]
        · have hpq : q = p := by
            have hp := get_lt hq
            rw [List.getElem?_eq_getElem hp] at hq
            simp at hq
            exact hq.symm
          subst hpq
          rw [hsn] at ht
          by_cases hqe : q < es.length
          · rw [List.getElem?_append_left (by omega)] at ht
            obtain ⟨s, A', y1, y2, y3⟩ := h6 q q t (by rw [List.getElem?_eq_getElem (by simpa using hqe)]; simp) ht
            refine ⟨s, A', by rw [List.getElem?_append_left hqe, y1], y2.mono fun x hx => ?_, fun x hx => List.mem_append.2 (.inl (y3 x hx))⟩
            rw [st2.others hwS h8 x (y3 x hx), hsS x (y3 x hx)]
          · rw [List.getElem?_append_right (by omega)] at ht
            have hq0 : q - (leavesFrom 0 (fs.take i)).length = 0 := by
              rcases Nat.eq_zero_or_pos (q - (leavesFrom 0 (fs.take i)).length) with h0 | h0
              · exact h0
              · rw [List.getElem?_eq_none (by simp; omega)] at ht; cases ht
            rw [hq0] at ht
            simp at ht
            subst ht
            refine ⟨⟨some ⟨L.length, 0, none⟩, 1, 1⟩, [L.length], ?_, (sx.mono (st2.others hgl1 hgl)).rd, fun x hx => List.mem_append.2 (.inr hx)⟩
            rw [List.getElem?_append_right (by omega), show q - es.length = 0 by omega]
            simp [HT.wt]
            omega
        · rcases List.mem_append.1 hx with hx | hx
          · exact st.within h7 x hx
          · exact st2.within hgl1 x hx
        · rcases List.mem_append.1 hy with hy | hy
          · exact st2.apart hwS h8 x hx hy
          · exact st2.apart hgl1 hgl x hx hy
      obtain ⟨l3, es3, Ge3, S3, L3, e1, e2, e3, e4, e5⟩ := ih (i + 1) j l2' _ Ge' _ L2 (by omega) (by omega) hE2 (by rw [hsn]; simp [hl]) (hr.mono (st.others hr.within hGA)) (st.apart hr.within hGA)
      refine ⟨l3, es3, Ge3, S3, L3, ?_, e2, e3, st.trans e4, fun x hx => ?_⟩
      · rw [← e1, decide_eq_true h0]
        have p1 : Rlm.app (L ++ [LBlk.cells [Value.int .i64 (i : Int)] 3 false 0] ++ [LBlk.cells [Value.int .i64 fs[i], Value.slice (some ⟨L.length, 0, none⟩) 1 1, .bool false] 134 false 0]) 134 3 40 l2 1 [Value.int .i64 fs[i], Value.slice (some ⟨L.length, 0, none⟩) 1 1, .bool false] = some (l2', L2) := p1
        simp only [lif_true, size100, bytes100, src_tri, obind_some, p1]
        rfl
      · rcases e5 x hx with hx | hx
        · rcases List.mem_append.1 hx with hx | hx
          · exact .inl hx
          · simp at hx; exact .inr (by omega)
        · exact .inr (Nat.le_trans st.len hx)
    · rw [if_neg h0, List.append_nil] at hsn
      rw [decide_eq_false h0]
      rw [← hsn] at hE hl
      exact ih (i + 1) j l2 es Ge S L (by omega) (by omega) hE hl hr hGA
theorem refOnce_ok {k : Nat} {l : Sl} {fs : List Int} {A : List Nat} {L : LHeap} (hl : Rd L l (fs.map iV) A) (hf : ∀ f ∈ fs, f ≤ 1073741824) (hs : fs.length ≤ 1024) (hk : 4 * fs.length + 60 ≤ k) :
    ∃ s L' F, f61 k l L = some (.ret (.slice s.a s.n s.c) L') ∧ WS L' s ((lensOf fs).map iV) 3 F ∧ Step [] L F L' := by
  obtain ⟨k, rfl⟩ : ∃ k', k = k' + 1 := ⟨k - 1, by omega⟩
  have hn := hl.len
  simp only [List.length_map] at hn
  rw [f61_eq]
  simp only [bytes3, hn, room_ok (n := fs.length) (b := 8) (by omega) (by omega), when_true, Int.toNat_natCast]
  have hw := WS.made (L := L) (n := fs.length) (v := Value.int .i64 0) (e := 3)
  have s0 := Step.new [] L (LBlk.cells (List.flatten (List.replicate fs.length [Value.int .i64 0])) 3 false 0)
  generalize L ++ [LBlk.cells (List.flatten (List.replicate fs.length [Value.int .i64 0])) 3 false 0] = M0 at *
  have hl0 := hl.mono (s0.others hl.within (none_apart _))
  have hrep : List.replicate fs.length (Value.int .i64 0) = (List.replicate fs.length (0 : Int)).map iV := by simp [iV]
  rw [hrep] at hw
  obtain ⟨l2, es, Ge, S, L1, a1, a2, a3, a4, a5⟩ := collectR (k := k) (l1 := ⟨some ⟨L.length, 0, none⟩, fs.length, fs.length⟩) (Fo := [L.length]) hn (by omega) fs.length 0 k ⟨none, 0, 0⟩ [] [] [] M0 (by omega) (by omega)
    ⟨OZ.nil _ _ (by omega), by simp, fun k e he => by simp at he, fun k hk => by simp at hk, rfl, fun p q t hq => by simp at hq, fun i hi => by simp at hi, none_apart _⟩ rfl hl0 (none_apart _)
  have hw1 := hw.mono (a4.others hw.within (none_apart _))
  have apG : Apart [L.length] Ge := (a4.apart hw.within (none_apart _)).symm
  have apS : Apart [L.length] S := fun i hi hj => by
    rcases a5 i hj with h | h
    · simp at h
    · have := hw.within i hi; omega
  have st : ∀ {L' : LHeap}, Step ([L.length] ++ Ge) L1 [L.length] L' → Step [] L [L.length] L' := fun {L'} h => by
    have q : Step [L.length] M0 ([L.length] ++ Ge) L1 := by
      refine ⟨a4.len, fun i hi _ => a4.keep i hi (by simp), fun i hi => ?_⟩
      rcases List.mem_append.1 hi with hi | hi
      · exact .inl hi
      · exact (a4.foot i hi).imp (fun h => by simp at h) id
    exact s0.trans (q.trans h)
  have hll := leavesFrom_length fs 0
  have hl2 : l2.n = (leavesFrom 0 fs).length := by have := a2.1.1; simp at this; omega
  have a1' : f61_l4 k k l ⟨some ⟨L.length, 0, none⟩, fs.length, fs.length⟩ ⟨none, 0, 0⟩ 0 M0 = f61_l4 k (k - fs.length) l ⟨some ⟨L.length, 0, none⟩, fs.length, fs.length⟩ l2 (fs.length : Int) L1 := a1
  obtain ⟨j, hj⟩ : ∃ j, k - fs.length = j + 1 := ⟨k - fs.length - 1, by omega⟩
  rw [a1', hj, f61_l4_eq, decide_eq_false (by omega), lif_false]
  have hsym : ∀ i ∈ allSyms (leavesFrom 0 fs), i < fs.length := fun i hi => by have := (leaves_syms_ge i hi).2; omega
  have hlaid : Laid fs.length (leavesFrom 0 fs) (List.replicate fs.length 0) := by
    refine ⟨by simp, fun t ht i hi => ?_, fun i hi _ => by simp [hi]⟩
    obtain ⟨q, hq, rfl, _⟩ := leavesFrom_leaf ht
    simp [HT.syms] at hi
    subst hi
    simp [HT.dpt, hq]
  by_cases hone : (leavesFrom 0 fs).length = 1
  · obtain ⟨t, ht⟩ := List.length_eq_one_iff.1 hone
    obtain ⟨q, hq, htq, _⟩ := leavesFrom_leaf (show t ∈ leavesFrom 0 fs by rw [ht]; simp)
    obtain ⟨h1, _, _, _, _, h6, _, _⟩ := a2
    obtain ⟨s, A', y1, y2, _⟩ := h6 0 0 t (by rw [List.getElem?_eq_getElem (by simp; omega)]; simp) (by rw [ht]; rfl)
    obtain ⟨_, w2, _⟩ := entCells_get y1
    obtain ⟨c, i1, i2⟩ := h1.get (i := 0) (by omega)
    have w2' := (i2 L1 (fun _ _ => rfl) (0 * 3 + 1)).trans w2
    rw [htq] at y2
    obtain ⟨b, b1, b2⟩ := y2.here (i := 0) (v := kV (0 + q)) rfl
    obtain ⟨a, L2, e1, e2, e3, e4⟩ := hw1.put (i := 0 + q) (by simp; omega) (iV 1)
    refine ⟨⟨some ⟨L.length, 0, none⟩, fs.length, fs.length⟩, L2, [L.length], ?_, ?_, st (e4.mono fun i hi => List.mem_append.2 (.inl hi))⟩
    · rw [hl2, hone, show (((1 : Nat) : Int) == 1) = true from rfl]
      have i1 : idx l2 0 3 = some ⟨c, 0 * 3, none⟩ := i1
      have b1 : idx s 0 1 = some b := b1
      have b1 : idx ⟨s.a, s.n, s.c⟩ 0 1 = some b := b1
      have b2 : cell L1 b = some (.int .i64 ((0 + q : Nat) : Int)) := b2
      have e2 : stores L1 a [Value.int .i64 1] = some L2 := e2
      have w2' : cell L1 ⟨c, 0 * 3 + 1, none⟩ = some (.slice s.a s.n s.c) := w2'
      simp only [lif_true, i1, mk_add, w2', Option.bind_some, asSl_slice, obind_some, b1, b2, asI_int, e1, e2]
    · rw [lensOf_one ht, htq]
      simp only [HT.lay]
      rw [List.map_set]
      exact e3
  · rw [hl2, show (((leavesFrom 0 fs).length : Int) == 1) = false by simp; omega, lif_false]
    by_cases hnil : leavesFrom 0 fs = []
    · refine ⟨⟨some ⟨L.length, 0, none⟩, fs.length, fs.length⟩, L1, [L.length], ?_, by rw [lensOf_nil hnil]; exact hw1, st ((Step.refl _ _).less fun i hi => .inl (List.mem_append.2 (.inl hi)))⟩
      obtain ⟨k, rfl⟩ : ∃ k', k = k' + 1 := ⟨k - 1, by omega⟩
      rw [f61_l12_eq, decide_eq_false (by rw [hnil]; simp)]
      rfl
    · obtain ⟨m, hm⟩ : ∃ m, (leavesFrom 0 fs).length = m + 2 := by
        have : (leavesFrom 0 fs).length ≠ 0 := fun h => hnil (List.eq_nil_of_length_eq_zero h)
        exact ⟨(leavesFrom 0 fs).length - 2, by omega⟩
      have htot : total (leavesFrom 0 fs) < 2 ^ 60 := by have := leaves_total hf 0; omega
      have hasl : (allSyms (leavesFrom 0 fs)).length = (leavesFrom 0 fs).length := by rw [← leaves_syms fs 0]; unfold allSyms; rw [List.length_flatMap]
      obtain ⟨L2, out', b1, b2, b3, b4⟩ := merge_all (k := k) (m + 1) k l2 es _ (leavesFrom 0 fs) Ge S L1 _ 1 (by omega) (by omega) a2 hw1 apG apS hlaid (by omega) hsym (leaves_nodup fs 0) (by omega) (by omega) htot (fun z hz => by have := List.eq_of_mem_replicate hz; omega) (by omega) (by omega)
      have hj1 := joinAll_length (m + 1) (leavesFrom 0 fs) (by omega)
      obtain ⟨t, ht⟩ := List.length_eq_one_iff.1 hj1
      obtain ⟨j1, j2, _⟩ := joined (m := m + 1) (by omega) ht
      rw [ht] at b3
      have := laid_one j1 j2 b3
      rw [this] at b2
      refine ⟨⟨some ⟨L.length, 0, none⟩, fs.length, fs.length⟩, L2, [L.length], b1, ?_, st b4⟩
      rw [lensOf_more hm ht]
      exact b2
theorem fits_loop {k j11 : Nat} {l1 l4 : Sl} {b2 : Bool} {n3 : Int} {zs : List Int} {A : List Nat} {L : LHeap} (hl : Rd L l4 (zs.map iV) A) (hs : zs.length < 2 ^ 60) :
    ∀ (m i j : Nat) (b : Bool), i + m = zs.length → m < j → f29_l16 k j11 j l1 b2 n3 l4 b (i : Int) L = f29_l16 k j11 (j - m) l1 b2 n3 l4 (b && fits (zs.drop i)) (zs.length : Int) L := by
  have hn := hl.len
  simp only [List.length_map] at hn
  intro m
  induction m with
  | zero =>
    intro i j b hi hj
    obtain rfl : i = zs.length := by omega
    rw [List.drop_length]
    simp [fits]
  | succ m ih =>
    intro i j b hi hj
    obtain ⟨j, rfl⟩ : ∃ j', j = j' + 1 := ⟨j - 1, by omega⟩
    have hiz : i < zs.length := by omega
    obtain ⟨a, a1, a2⟩ := hl.here (i := i) (v := iV zs[i]) (by simp [hiz])
    rw [f29_l16_eq, decide_eq_true (by omega), show j + 1 - (m + 1) = j - m by omega, List.drop_eq_getElem_cons hiz]
    simp only [lif_true, a1, a2, iV, obind_some, Option.bind_some, asI_int]
    rw [wI64 (n := (i : Int) + 1) (by omega) (by omega)]
    cases b with
    | true =>
      have := ih (i + 1) j (decide (zs[i] ≤ 15)) (by omega) (by omega)
      rw [lif_true]
      refine Eq.trans this ?_
      rw [Bool.true_and]
      rfl
    | false =>
      have := ih (i + 1) j false (by omega) (by omega)
      rw [lif_false]
      refine Eq.trans this ?_
      rw [Bool.false_and, Bool.false_and]
theorem halveR_loop {k j11 : Nat} {l : Sl} {b2 : Bool} {n3 : Int} {fs : List Int} (hf : ∀ f ∈ fs, 0 ≤ f ∧ f ≤ 1073741824) (hs : fs.length < 2 ^ 60) (hn3 : 0 ≤ n3 ∧ n3 < 100) (hln : l.n = fs.length) :
    ∀ (m i j : Nat) (F : List Nat) (L : LHeap), i + m = fs.length → m < j → WS L l ((halve (fs.take i) ++ fs.drop i).map iV) 3 F →
      ∃ L', f29_l23 k j11 j l b2 n3 (i : Int) L = f29_l11 k j11 l b2 (n3 + 1) L' ∧ WS L' l ((halve fs).map iV) 3 F ∧ Step F L F L' := by
  intro m
  induction m with
  | zero =>
    intro i j F L hi hj hw
    obtain ⟨j, rfl⟩ : ∃ j', j = j' + 1 := ⟨j - 1, by omega⟩
    rw [List.take_of_length_le (by omega), List.drop_eq_nil_of_le (by omega), List.append_nil] at hw
    refine ⟨L, ?_, hw, .refl _ _⟩
    rw [f29_l23_eq, decide_eq_false (by omega), lif_false, wI64 (by omega) (by omega)]
  | succ m ih =>
    intro i j F L hi hj hw
    obtain ⟨j, rfl⟩ : ∃ j', j = j' + 1 := ⟨j - 1, by omega⟩
    have hiz : i < fs.length := by omega
    obtain ⟨f1, f2⟩ := hf _ (List.getElem_mem hiz)
    have hlen : (halve (fs.take i)).length = i := by rw [halve_length, List.length_take]; omega
    have hget : ((halve (fs.take i) ++ fs.drop i).map iV)[i]? = some (iV fs[i]) := by
      rw [List.getElem?_map, List.getElem?_append_right (by omega), hlen, Nat.sub_self, List.getElem?_drop, Nat.add_zero, List.getElem?_eq_getElem hiz]; rfl
    obtain ⟨a, a1, a2⟩ := hw.rd.here hget
    obtain ⟨a', L1, b1, b2', b3, b4⟩ := hw.put (i := i) (get_lt hget) (iV ((fs[i] + 1).tdiv 2))
    rw [← List.map_set] at b3
    have hset : (halve (fs.take i) ++ fs.drop i).set i ((fs[i] + 1).tdiv 2) = halve (fs.take (i + 1)) ++ fs.drop (i + 1) := by
      rw [List.set_append_right _ _ (by omega), hlen, Nat.sub_self, List.drop_eq_getElem_cons hiz, List.set_cons_zero, take_succ_int hiz]
      simp only [halve, List.map_append, List.map_cons, List.map_nil, List.append_assoc, List.singleton_append]
    rw [hset] at b3
    obtain ⟨L2, c1, c2, c3⟩ := ih (i + 1) j F L1 (by omega) (by omega) b3
    refine ⟨L2, ?_, c2, b4.trans c3⟩
    rw [← c1, f29_l23_eq, decide_eq_true (by omega)]
    simp only [lif_true, a1, a2, iV, obind_some, Option.bind_some, asI_int]
    have e1 : IntKind.wrap .i64 (Int.tdiv (IntKind.wrap .i64 (fs[i] + 1)) 2) = (fs[i] + 1).tdiv 2 := by
      rw [wI64 (n := fs[i] + 1) (by omega) (by omega), Int.tdiv_eq_ediv_of_nonneg (by omega), wI64] <;> omega
    rw [e1, wI64 (n := (i : Int) + 1) (by omega) (by omega)]
    have b2' : stores L a' [Value.int .i64 ((fs[i] + 1).tdiv 2)] = some L1 := b2'
    obtain rfl : a = a' := Option.some.inj (a1.symm.trans b1)
    simp only [b2', obind_some]
    rfl
theorem lengthsR_loop {k : Nat} {l : Sl} : ∀ (n j : Nat) (b : Bool) (fs : List Int) (F : List Nat) (L : LHeap), n < j → n ≤ 30 → (∀ f ∈ fs, 0 ≤ f ∧ f ≤ 2 ^ n) → fs.length ≤ 512 → 4 * fs.length + 100 ≤ k → WS L l (fs.map iV) 3 F →
    ∃ s L' F', f29_l11 k j l b (30 - (n : Int)) L = some (.ret (.tuple #[.slice s.a s.n s.c, .bool (b || !fits (lensOf fs)), .int .i64 0]) L') ∧ WS L' s ((lensLoop n fs).map iV) 3 F' ∧ Step F L F' L' := by
  intro n
  have main : ∀ (n j : Nat) (b : Bool) (fs : List Int) (F : List Nat) (L : LHeap), n ≤ 30 → (∀ f ∈ fs, 0 ≤ f ∧ f ≤ 2 ^ n) → fs.length ≤ 512 → 4 * fs.length + 100 ≤ k → WS L l (fs.map iV) 3 F →
      (fits (lensOf fs) = true → ∃ s L' F', f29_l11 k (j + 1) l b (30 - (n : Int)) L = some (.ret (.tuple #[.slice s.a s.n s.c, .bool b, .int .i64 0]) L') ∧ WS L' s ((lensOf fs).map iV) 3 F' ∧ Step F L F' L') ∧
      (fits (lensOf fs) = false → ∃ L', f29_l11 k (j + 1) l b (30 - (n : Int)) L = f29_l11 k j l true (30 - (n : Int) + 1) L' ∧ WS L' l ((halve fs).map iV) 3 F ∧ Step F L F L') := by
    intro n j b fs F L hn30 hf hl hk hw
    have hln := hw.rd.len
    simp only [List.length_map] at hln
    have hb : (2 : Int) ^ n ≤ 2 ^ 30 := by
      have : (2 : Nat) ^ n ≤ 2 ^ 30 := Nat.pow_le_pow_right (by omega) hn30
      exact_mod_cast this
    have hf' : ∀ f ∈ fs, 0 ≤ f ∧ f ≤ 1073741824 := fun f hff => by have := hf f hff; omega
    obtain ⟨s, L1, F1, a1, a2, a3⟩ := refOnce_ok (k := k) hw.rd (fun f hff => (hf' f hff).2) (by omega) (by omega)
    have hsn := a2.rd.len
    simp only [List.length_map, lensOf_length] at hsn
    have hw1 : WS L1 l (fs.map iV) 3 F := hw.mono (a3.others hw.within (none_apart _))
    have st : Step F L F1 L1 := a3.mono fun i hi => by simp at hi
    have hloop := fits_loop (k := k) (j11 := j) (l1 := l) (b2 := b) (n3 := 30 - (n : Int)) a2.rd (by rw [lensOf_length]; omega) (lensOf fs).length 0 k true (by omega) (by rw [lensOf_length]; omega)
    rw [Bool.true_and, List.drop_zero, lensOf_length] at hloop
    have hloop : f29_l16 k j k l b (30 - (n : Int)) s true 0 L1 = f29_l16 k j (k - fs.length) l b (30 - (n : Int)) s (fits (lensOf fs)) (fs.length : Int) L1 := hloop
    obtain ⟨jj, hjj⟩ : ∃ jj, k - fs.length = jj + 1 := ⟨k - fs.length - 1, by omega⟩
    rw [f29_l11_eq, decide_eq_true (by omega), lif_true, a1]
    simp only [lbind_ret, asSl_slice, obind_some]
    rw [show (⟨s.a, s.n, s.c⟩ : Sl) = s from rfl, hloop, hjj, f29_l16_eq, decide_eq_false (by omega), lif_false]
    refine ⟨fun h => ⟨s, L1, F1, by rw [h]; rfl, a2, st⟩, fun h => ?_⟩
    rw [h, lif_false]
    obtain ⟨L2, c1, c2, c3⟩ := halveR_loop (k := k) (j11 := j) (l := l) (b2 := true) (n3 := 30 - (n : Int)) hf' (by omega) (by omega) hln fs.length 0 k F L1 (by omega) (by omega) (by simpa [halve] using hw1)
    exact ⟨L2, c1, c2, (st.less (G := F) fun i hi => .inr hi).trans c3⟩
  induction n with
  | zero =>
    intro j b fs F L hj hn30 hf hl hk hw
    obtain ⟨j, rfl⟩ : ∃ j', j = j' + 1 := ⟨j - 1, by omega⟩
    have hfit := fits_ones (fun f hff => by have := (hf f hff).2; simpa using this) hl
    rw [hfit, Bool.not_true, Bool.or_false]
    exact (main 0 j b fs F L hn30 hf hl hk hw).1 hfit
  | succ n ih =>
    intro j b fs F L hj hn30 hf hl hk hw
    obtain ⟨j, rfl⟩ : ∃ j', j = j' + 1 := ⟨j - 1, by omega⟩
    obtain ⟨m1, m2⟩ := main (n + 1) j b fs F L hn30 hf hl hk hw
    simp only [lensLoop]
    cases hfit : fits (lensOf fs) with
    | true => simpa using m1 hfit
    | false =>
      obtain ⟨L1, c1, c2, c3⟩ := m2 hfit
      obtain ⟨s, L2, F2, d1, d2, d3⟩ := ih j true (halve fs) F L1 (by omega) (by omega) (halve_mem hf) (by rw [halve_length]; exact hl) (by rw [halve_length]; exact hk) c2
      refine ⟨s, L2, F2, ?_, by simpa using d2, c3.trans d3⟩
      rw [c1, show 30 - ((n + 1 : Nat) : Int) + 1 = 30 - (n : Int) by omega, d1]
      simp
theorem check_loop {k : Nat} {l : Sl} {fs : List Int} {A : List Nat} {L : LHeap} (hl : Rd L l (fs.map iV) A) (hs : fs.length < 2 ^ 60) :
    ∀ (m i j : Nat), i + m = fs.length → m < j → f29_l4 k j l (i : Int) L = lif ((fs.drop i).any bad) (some (.ret (.tuple #[.slice none 0 0, .bool false, .int .i64 1]) L)) (f29_l4 k (j - m) l (fs.length : Int) L) := by
  have hn := hl.len
  simp only [List.length_map] at hn
  intro m
  induction m with
  | zero =>
    intro i j hi hj
    obtain rfl : i = fs.length := by omega
    rw [List.drop_length]
    rfl
  | succ m ih =>
    intro i j hi hj
    obtain ⟨j, rfl⟩ : ∃ j', j = j' + 1 := ⟨j - 1, by omega⟩
    have hiz : i < fs.length := by omega
    obtain ⟨a, a1, a2⟩ := hl.here (i := i) (v := iV fs[i]) (by simp [hiz])
    rw [f29_l4_eq, decide_eq_true (by omega), show j + 1 - (m + 1) = j - m by omega, List.drop_eq_getElem_cons hiz, List.any_cons]
    simp only [lif_true, a1, a2, iV, obind_some, Option.bind_some, asI_int]
    rw [wI64 (n := (i : Int) + 1) (by omega) (by omega)]
    unfold bad
    by_cases h0 : fs[i] < 0
    · rw [dec_t h0]
      rfl
    · rw [dec_f h0, lif_false]
      by_cases h1 : fs[i] > 1073741824
      · rw [dec_t h1]
        rfl
      · rw [dec_f h1, lif_false]
        exact ih (i + 1) j (by omega) (by omega)
theorem lengthsR_ok {k : Nat} {l : Sl} {fs : List Int} {A : List Nat} {L : LHeap} (hl : Rd L l (fs.map iV) A) (hs : fs.length < 2 ^ 40) (hk : 4 * fs.length + 110 ≤ k) :
    ∃ s L' F, f29 k l L = some (.ret (.tuple #[.slice s.a s.n s.c, .bool (lenOk fs && !fits (lensOf fs)), .int .i64 (lenErr fs)]) L') ∧ WS L' s ((lenRes fs).map iV) 3 F ∧ Step [] L F L' := by
  obtain ⟨k, rfl⟩ : ∃ k', k = k' + 1 := ⟨k - 1, by omega⟩
  have hn := hl.len
  simp only [List.length_map] at hn
  rw [f29_eq]
  by_cases h512 : fs.length > 512
  · have hno : lenOk fs = false := by simp [lenOk, show ¬ fs.length ≤ 512 by omega]
    rw [decide_eq_true (by omega)]
    exact ⟨⟨none, 0, 0⟩, L, [], by rw [lenErr, hno]; rfl, .inl ⟨rfl, by rw [lenRes, hno]; rfl, rfl⟩, .refl _ _⟩
  rw [decide_eq_false (by omega), lif_false]
  have hc : f29_l4 k k l 0 L = _ := check_loop (k := k) hl (by omega) fs.length 0 k (by omega) (by omega)
  rw [hc, List.drop_zero]
  cases hb : fs.any bad with
  | true =>
    have hno : lenOk fs = false := by simp [lenOk, hb]
    exact ⟨⟨none, 0, 0⟩, L, [], by rw [lenErr, hno]; rfl, .inl ⟨rfl, by rw [lenRes, hno]; rfl, rfl⟩, .refl _ _⟩
  | false =>
    have hok : lenOk fs = true := by simp [lenOk, hb]; omega
    obtain ⟨_, hf⟩ := lenOk_mem hok
    obtain ⟨jj, hjj⟩ : ∃ jj, k - fs.length = jj + 1 := ⟨k - fs.length - 1, by omega⟩
    rw [lif_false, hjj, f29_l4_eq, decide_eq_false (by omega), lif_false]
    obtain ⟨s1, L1, F1, c1, c2, c3, _⟩ := copy_ok (L := L) (vs := fs.map iV) 3 8 (by simp; omega) (by simp; omega)
    have hsrc := (hl.mono (L' := L ++ [LBlk.cells [] 3 false 0]) fun i hi => get_push (hl.within i hi)).src
    rw [List.length_map, ← hn] at c1
    obtain ⟨s, L2, F2, d1, d2, d3⟩ := lengthsR_loop (k := k) 30 k false fs F1 L1 (by omega) (by omega) (fun f hff => by have := hf f hff; omega) (by omega) (by omega) c2
    refine ⟨s, L2, F2, ?_, by rw [lenRes, hok]; exact d2, c3.trans d3⟩
    rw [lenErr, hok]
    simp only [size3, bytes3, hsrc, obind_some, c1]
    exact d1
end Go.Proofs.Ytflhogapjmdkaaa.X
end

section
set_option maxRecDepth 100000
set_option linter.unusedVariables false
namespace Go.Proofs.Ytflhogapjmdkaaa.X
open Go Go.Rlm
/-- The reference's reader: at r, of a text; what is left. -/
def RSt (L : LHeap) (r : Nat) (rest : List Bool) : Prop :=
  ∃ (all : List Bool) (n : Nat), L[r]? = some (.cells [.string (txt all), .int .i64 (n : Int)] 73 false 0) ∧ n ≤ all.length ∧ all.length < 2 ^ 36 ∧ rest = all.drop n
theorem RSt.mono {L L' : LHeap} {r : Nat} {rest : List Bool} (h : RSt L r rest) (hk : L'[r]? = L[r]?) : RSt L' r rest := by
  obtain ⟨all, n, h1, h2, h3, h4⟩ := h
  exact ⟨all, n, by rw [hk, h1], h2, h3, h4⟩
theorem RSt.lt {L : LHeap} {r : Nat} {rest : List Bool} (h : RSt L r rest) : r < L.length := by
  obtain ⟨all, n, h1, h2, h3, h4⟩ := h
  exact get_lt h1
theorem txt_at {all : List Bool} {i : Nat} (h : i < all.length) : byteAt (txt all) (i : Int) = some (if all[i] then 49 else 48) := by
  have : (txt all).data.toList[i]? = some (if all[i] then (49 : UInt8) else 48) := by simp [txt, h]
  rw [byteAt_get this]
  cases all[i] <;> rfl
end Go.Proofs.Ytflhogapjmdkaaa.X
end

section
set_option maxRecDepth 100000
set_option linter.unusedVariables false
namespace Go.Proofs.Ytflhogapjmdkaaa.X
open Go Go.Rlm
theorem shift128 {q : Nat} (h : q < 8) : Int.fdiv 128 (2 ^ min (Int.toNat ((q : Nat) : Int)) 8) = ((2 ^ (7 - q) : Nat) : Int) := by
  have : q = 0 ∨ q = 1 ∨ q = 2 ∨ q = 3 ∨ q = 4 ∨ q = 5 ∨ q = 6 ∨ q = 7 := by omega
  rcases this with rfl | rfl | rfl | rfl | rfl | rfl | rfl | rfl <;> rfl
/-- The first n bits are in the bytes. -/
def Part (vs : List Nat) (bs : List Bool) (n : Nat) : Prop := ∀ q, q < vs.length → vs.getD q 0 < 256 ∧ ∀ k, k < 8 → (vs.getD q 0).testBit (7 - k) = (decide (8 * q + k < n) && bs.getD (8 * q + k) false)
theorem Part.same {vs : List Nat} {bs : List Bool} {n : Nat} (h : Part vs bs n) (hb : bs.getD n false = false) : Part vs bs (n + 1) := by
  intro q hq
  obtain ⟨h1, h2⟩ := h q hq
  refine ⟨h1, fun k hk => ?_⟩
  rw [h2 k hk]
  by_cases he : 8 * q + k = n
  · rw [he, hb, Bool.and_false, Bool.and_false]
  · rw [decide_eq_decide.2 (show 8 * q + k < n ↔ 8 * q + k < n + 1 by omega)]
theorem Part.set {vs : List Nat} {bs : List Bool} {n : Nat} (h : Part vs bs n) (hn : n / 8 < vs.length) (hb : bs.getD n false = true) : Part (vs.set (n / 8) (vs.getD (n / 8) 0 ||| 2 ^ (7 - n % 8))) bs (n + 1) := by
  intro q hq
  rw [List.length_set] at hq
  obtain ⟨h1, h2⟩ := h q hq
  by_cases he : q = n / 8
  · subst he
    have e : (vs.set (n / 8) (vs.getD (n / 8) 0 ||| 2 ^ (7 - n % 8))).getD (n / 8) 0 = vs.getD (n / 8) 0 ||| 2 ^ (7 - n % 8) := by
      rw [List.getD_eq_getElem?_getD, List.getElem?_set_self hn]; rfl
    rw [e]
    have hp : 2 ^ (7 - n % 8) < 256 := by
      have : 2 ^ (7 - n % 8) ≤ 2 ^ 7 := Nat.pow_le_pow_right (by omega) (by omega)
      omega
    refine ⟨Nat.or_lt_two_pow (n := 8) h1 hp, fun k hk => ?_⟩
    rw [Nat.testBit_or, h2 k hk, Nat.testBit_two_pow]
    have hm := Nat.div_add_mod n 8
    by_cases hk2 : k = n % 8
    · subst hk2
      rw [hm, hb, decide_eq_true (show 7 - n % 8 = 7 - n % 8 from rfl), decide_eq_true (show n < n + 1 by omega)]
      simp
    · rw [decide_eq_false (show ¬ 7 - n % 8 = 7 - k by omega), Bool.or_false]
      congr 1
      exact decide_eq_decide.2 (by omega)
  · have e : (vs.set (n / 8) (vs.getD (n / 8) 0 ||| 2 ^ (7 - n % 8))).getD q 0 = vs.getD q 0 := by
      rw [List.getD_eq_getElem?_getD, List.getElem?_set_ne (fun e => he e.symm), ← List.getD_eq_getElem?_getD]
    rw [e]
    refine ⟨h1, fun k hk => ?_⟩
    rw [h2 k hk]
    congr 1
    exact decide_eq_decide.2 (by omega)
theorem WS.bytes {L : LHeap} {s : Sl} {vs : List Nat} {e : TypeId} {F : List Nat} (h : WS L s (vs.map bV) e F) (hb : ∀ n ∈ vs, n < 256) : bytesOf L s = some (strOf vs) := by
  have hs := h.rd.src
  have hn := h.len
  simp only [bytesOf]
  unfold srcOf at hs
  rw [show srcCells L s s.n 1 = some (vs.map bV) from hs]
  simp only [Option.bind_eq_bind, Option.bind_some, toBytes_of vs hb]
  simp [strOf, ByteArray.empty, ByteArray.emptyWithCapacity]
  rfl
theorem rbits_loop {k : Nat} {bs : List Bool} {l : Sl} (hs : bs.length < 2 ^ 40) : ∀ (m i j : Nat) (vs : List Nat) (F : List Nat) (L : LHeap), i + m = bs.length → m < j → WS L l (vs.map bV) 5 F → Part vs bs i → 8 * vs.length = bs.length →
    ∃ L' vs' , f33_l5 k j (txt bs) l (i : Int) L = some (.ret (.string (strOf vs')) L') ∧ Part vs' bs bs.length ∧ vs'.length = vs.length ∧ Step F L F L' := by
  intro m
  induction m with
  | zero =>
    intro i j vs F L hi hj h hp hv
    obtain ⟨j, rfl⟩ : ∃ j', j = j' + 1 := ⟨j - 1, by omega⟩
    rw [f33_l5_eq, txt_size, decide_eq_false (by omega), lif_false]
    rw [show i = bs.length by omega] at hp
    rw [WS.bytes h fun n hn => by
      obtain ⟨q, hq, rfl⟩ := List.getElem_of_mem hn
      have := (hp q hq).1
      rwa [List.getD_eq_getElem?_getD, List.getElem?_eq_getElem hq] at this, obind_some]
    exact ⟨L, vs, rfl, hp, rfl, .refl _ _⟩
  | succ m ih =>
    intro i j vs F L hi hj h hp hv
    obtain ⟨j, rfl⟩ : ∃ j', j = j' + 1 := ⟨j - 1, by omega⟩
    have hib : i < bs.length := by omega
    have hbit : bs.getD i false = bs[i] := by rw [List.getD_eq_getElem?_getD, List.getElem?_eq_getElem hib]; rfl
    rw [f33_l5_eq, txt_size, decide_eq_true (by omega), lif_true, txt_at hib, obind_some]
    have hnx : IntKind.wrap .i64 ((i : Int) + 1) = ((i + 1 : Nat) : Int) := by rw [wI64 (by omega) (by omega)]; omega
    cases hb : bs[i] with
    | false =>
      rw [if_neg (by decide), show ((48 : Int) == 49) = false from rfl, lif_false, hnx]
      rw [hb] at hbit
      exact ih (i + 1) j vs F L (by omega) (by omega) h (hp.same hbit) hv
    | true =>
      rw [if_pos rfl, show ((49 : Int) == 49) = true from rfl, lif_true]
      rw [hb] at hbit
      have e8 : (8 : Int) = ((8 : Nat) : Int) := rfl
      have hq : i / 8 < vs.length := by omega
      have hdiv : IntKind.wrap .i64 (Int.tdiv (i : Int) 8) = ((i / 8 : Nat) : Int) := by
        rw [e8, tdiv_nat, wI64 (by omega) (by omega)]
      have hmod : Int.tmod (i : Int) 8 = ((i % 8 : Nat) : Int) := by rw [e8, tmod_nat]
      rw [hdiv, hmod]
      have hgv : (vs.map bV)[i / 8]? = some (bV (vs.getD (i / 8) 0)) := by
        rw [List.getElem?_map, List.getD_eq_getElem?_getD, List.getElem?_eq_getElem hq]; rfl
      obtain ⟨a, g1, g2⟩ := h.rd.here hgv
      obtain ⟨a', L1, g3, g4, g5, g6⟩ := h.put (i := i / 8) (by simpa using hq) (bV (vs.getD (i / 8) 0 ||| 2 ^ (7 - i % 8)))
      obtain rfl : a = a' := by rw [g1] at g3; exact Option.some.inj g3
      rw [g1, obind_some, g2]
      simp only [bV, Option.bind_some, asI_int, obind_some]
      rw [decide_eq_false (by omega), Bool.not_false, when_true, shift128 (by omega)]
      have hv256 := (hp (i / 8) hq).1
      have hp2 : 2 ^ (7 - i % 8) < 256 := by
        have : 2 ^ (7 - i % 8) ≤ 2 ^ 7 := Nat.pow_le_pow_right (by omega) (by omega)
        omega
      rw [bitop_or (k := .u8) rfl (by simpa [IntKind.bits] using hv256) (by simpa [IntKind.bits] using hp2)]
      have g4' : stores L a [Value.int .u8 ((vs.getD (i / 8) 0 ||| 2 ^ (7 - i % 8) : Nat) : Int)] = some L1 := g4
      rw [g4', obind_some, hnx]
      rw [← List.map_set] at g5
      obtain ⟨L', vs', r1, r2, r3, r4⟩ := ih (i + 1) j _ F L1 (by omega) (by omega) g5 (hp.set hq hbit) (by rw [List.length_set]; exact hv)
      exact ⟨L', vs', r1, r2, by rw [r3, List.length_set], g6.trans r4⟩
theorem rpad_loop {k : Nat} (hk : 1 ≤ k) {L : LHeap} : ∀ (m j : Nat) (bs : List Bool), (bs.length + m) % 8 = 0 → m < 8 → m < j → bs.length + m < 2 ^ 31 → f33_l1 k j (txt bs) L = f33_l1 k (j - m) (txt (bs ++ List.replicate m false)) L := by
  intro m
  induction m with
  | zero => intro j bs _ _ _ _; simp
  | succ m ih =>
    intro j bs h hm hj hs
    obtain ⟨j, rfl⟩ : ∃ j', j = j' + 1 := ⟨j - 1, by omega⟩
    have e8 : (8 : Int) = ((8 : Nat) : Int) := rfl
    rw [f33_l1_eq, txt_size, e8, tmod_nat, show (((bs.length % 8 : Nat) : Int) != 0) = true by simp; omega, lif_true]
    have hone : ByteArray.mk #[48] = txt [false] := rfl
    rw [hone, decide_eq_true (by rw [txt_size]; unfold maxI; simp; omega), when_true, txt_append, ih j (bs ++ [false]) (by simp; omega) (by omega) (by omega) (by simp; omega)]
    rw [List.append_assoc, show [false] ++ List.replicate m false = List.replicate (m + 1) false from rfl, show j + 1 - (m + 1) = j - m by omega]
theorem rbytes_ok {k : Nat} {bs : List Bool} {L : LHeap} (hs : bs.length < 2 ^ 30) (hk : bs.length + 50 ≤ k) : ∃ L', f33 k (txt bs) L = some (.ret (.string (strOf (packOf bs))) L') ∧ Step [] L [] L' := by
  obtain ⟨k, rfl⟩ : ∃ k', k = k' + 1 := ⟨k - 1, by omega⟩
  rw [f33_eq, rpad_loop (by omega) ((8 - bs.length % 8) % 8) k bs (by omega) (by omega) (by omega) (by omega)]
  obtain ⟨j, hj⟩ : ∃ j, k - (8 - bs.length % 8) % 8 = j + 1 := ⟨k - (8 - bs.length % 8) % 8 - 1, by omega⟩
  have hl8 : (bs ++ List.replicate ((8 - bs.length % 8) % 8) false).length % 8 = 0 := by simp; omega
  have hlp : (bs ++ List.replicate ((8 - bs.length % 8) % 8) false).length = bs.length + (8 - bs.length % 8) % 8 := by simp
  have hget : ∀ i, (bs ++ List.replicate ((8 - bs.length % 8) % 8) false).getD i false = bs.getD i false := fun i => by
    rw [List.getD_eq_getElem?_getD, List.getD_eq_getElem?_getD]
    rcases Nat.lt_or_ge i bs.length with h | h
    · rw [List.getElem?_append_left h]
    · rw [List.getElem?_append_right h, List.getElem?_eq_none h, List.getElem?_replicate]
      split <;> rfl
  generalize hpb : bs ++ List.replicate ((8 - bs.length % 8) % 8) false = pb at *
  have e8 : (8 : Int) = ((8 : Nat) : Int) := rfl
  rw [hj, f33_l1_eq, txt_size, e8, tmod_nat, show (((pb.length % 8 : Nat) : Int) != 0) = false by rw [hl8]; rfl, lif_false, tdiv_nat, wI64 (n := ((pb.length / 8 : Nat) : Int)) (by omega) (by omega), bytes5, room_ok (n := pb.length / 8) (b := 1) (by omega) (by omega), when_true, Int.toNat_natCast]
  have hw : WS (L ++ [LBlk.cells (List.flatten (List.replicate (pb.length / 8) [Value.int IntKind.u8 0])) 5 false 0]) ⟨some ⟨L.length, 0, none⟩, pb.length / 8, pb.length / 8⟩ ((List.replicate (pb.length / 8) 0).map bV) 5 [L.length] := by
    rw [List.map_replicate]
    exact WS.made
  have st : Step [] L [L.length] (L ++ [LBlk.cells (List.flatten (List.replicate (pb.length / 8) [Value.int IntKind.u8 0])) 5 false 0]) := .new _ _ _
  have hp0 : Part (List.replicate (pb.length / 8) 0) pb 0 := by
    intro q hq
    have hq : q < pb.length / 8 := by simpa using hq
    have : (List.replicate (pb.length / 8) 0).getD q 0 = 0 := by rw [List.getD_eq_getElem?_getD, List.getElem?_replicate, if_pos hq]; rfl
    rw [this]
    exact ⟨by decide, fun k hk => by rw [Nat.zero_testBit, decide_eq_false (by omega)]; rfl⟩
  obtain ⟨L', vs', r1, r2, r3, r4⟩ := rbits_loop (k := k) (bs := pb) (l := ⟨some ⟨L.length, 0, none⟩, pb.length / 8, pb.length / 8⟩) (by omega) pb.length 0 k _ _ _ (by omega) (by omega) hw hp0 (by simp; omega)
  have hvl : vs'.length = pb.length / 8 := by rw [r3]; simp
  have hpk : Packs vs' bs := by
    refine ⟨by omega, fun i hi => ?_⟩
    obtain ⟨q1, q2⟩ := r2 i hi
    refine ⟨q1, fun q hq => ?_⟩
    rw [q2 q hq, decide_eq_true (by omega), Bool.true_and, hget]
  rw [hpk.unique (packOf_ok bs)] at r1
  exact ⟨L', r1, (st.trans r4).less fun i hi => by cases hi⟩
end Go.Proofs.Ytflhogapjmdkaaa.X
end

section
set_option maxRecDepth 100000
set_option linter.unusedVariables false
namespace Go.Proofs.Ytflhogapjmdkaaa.X
open Go Go.Rlm
structure Pc where
  f : Int
  s : Int
  bits : List Bool
def pcL (p : Pc) : List Value := [.int .i64 p.f, .int .i64 p.s, .string (txt p.bits)]
def pieces (t : Tok) : List Pc :=
  if t.k = 1 then [⟨t.b, -1, []⟩]
  else if t.k = 2 then [⟨260 + (nlen t.d.toNat : Nat), -1, numBits t.d.toNat⟩, ⟨-1, (nlen (t.l - 3).toNat : Nat), numBits (t.l - 3).toNat⟩]
  else [⟨257 + t.s, -1, []⟩, ⟨-1, (nlen (t.l - 3).toNat : Nat), numBits (t.l - 3).toNat⟩]
theorem pcs_len : ∀ ps : List Pc, (ps.flatMap pcL).length = ps.length * 3
  | [] => rfl
  | p :: ps => by
    rw [List.flatMap_cons, List.length_append, pcs_len ps]
    simp [pcL]; omega
theorem pcs_get {ps : List Pc} {i : Nat} {p : Pc} (h : ps[i]? = some p) {j : Nat} {v : Value} (hv : (pcL p)[j]? = some v) : (ps.flatMap pcL)[i * 3 + j]? = some v := by
  have hj : j < 3 := get_lt hv
  induction ps generalizing i with
  | nil => cases h
  | cons u us ih =>
    rw [List.flatMap_cons]
    cases i with
    | zero =>
      simp at h
      subst h
      rw [List.getElem?_append_left (by simp [pcL]; omega)]
      simpa using hv
    | succ i =>
      rw [List.getElem?_append_right (by simp [pcL]; omega)]
      have := ih (i := i) (by simpa using h)
      rw [show (i + 1) * 3 + j - (pcL u).length = i * 3 + j by simp [pcL]; omega]
      exact this
theorem size48 : Proofs.Try.prog.types[48].size = 3 := by kernel_rfl
theorem bytes48 : Proofs.Try.prog.types[48].bytes = 32 := by kernel_rfl
theorem src_row {L : LHeap} {cs : List Value} {ty : TypeId} {ro : Bool} {sp q z c : Nat} (h : cs.length = q * z) (hq : q ≠ 0) : srcOf (L ++ [.cells cs ty ro sp]) z q (.slice (some ⟨L.length, 0, none⟩) q c) = some cs := by
  have hb : Nat.beq q 0 = false := by
    cases hx : Nat.beq q 0 with
    | false => rfl
    | true => exact absurd (Nat.eq_of_beq_eq_true hx) hq
  simp only [srcOf, srcCells, hb, cond_false, cellsAt, get_new, Nat.zero_add, h, Nat.ble_eq_true_of_le (Nat.le_refl _), cond_true, List.drop_zero]
  rw [List.take_of_length_le (by omega)]
theorem app_one {L : LHeap} {b z bytes : Nat} {cs news : List Value} {e e' : TypeId} {ro : Bool} {sp : Nat} (hb : L[b]? = some (.cells cs e' ro sp)) (hl : cs.length = z) (hz : 2 * bytes ≤ 2 ^ 47) :
    Rlm.app L e z bytes ⟨some ⟨b, 0, none⟩, 1, 1⟩ 1 news = some (⟨some ⟨L.length, 0, none⟩, 2, OPEN⟩, L ++ [.cells (cs ++ news) e false z]) := by
  simp only [Rlm.app, srcCells, cellsAt, hb, show Nat.blt 1 OPEN = true from rfl, show Nat.ble (1 + 1) 1 = false from rfl, show Nat.beq 1 0 = false from rfl, cond_true, cond_false, Nat.zero_add, Nat.one_mul, hl, Nat.ble_eq_true_of_le (Nat.le_refl z), List.drop_zero]
  rw [show (1 + 1) * bytes = 2 * bytes from rfl, Nat.ble_eq_true_of_le hz, show Nat.ble (1 + 1) (2 ^ 62) = true from rfl, List.take_of_length_le (by omega)]
  rfl
theorem pieces_ok {k : Nat} {t : Tok} {L : LHeap} (hsh : tokShape t = true) (hw : t.wf) (hk : 80 ≤ k) :
    ∃ (s' : Sl) (L' : LHeap), f28 k t.k t.b t.l t.d t.s L = some (.ret (.slice s'.a s'.n s'.c) L') ∧ Step [] L [] L' ∧ s'.n = (pieces t).length ∧ srcOf L' 3 s'.n (.slice s'.a s'.n s'.c) = some ((pieces t).flatMap pcL) := by
  obtain ⟨k, rfl⟩ : ∃ k', k = k' + 1 := ⟨k - 1, by omega⟩
  rw [f28_eq]
  have hx : [LBlk.cells [Value.int IntKind.u8 t.k, Value.int IntKind.u8 t.b, Value.int IntKind.i64 t.l, Value.int IntKind.i64 t.d, Value.int IntKind.i64 t.s] 29 false 0] = [LBlk.cells (tokL t) 29 false 0] := rfl
  rw [hx]
  have g0 : (L ++ [LBlk.cells (tokL t) 29 false 0])[L.length]? = some (.cells (tokL t) 29 false 0) := get_new
  have st0 : Step [] L [] (L ++ [LBlk.cells (tokL t) 29 false 0]) := .push _ _ _
  have hlt : L.length < (L ++ [LBlk.cells (tokL t) 29 false 0]).length := by simp
  generalize hc : L.length = c at *
  generalize L ++ [LBlk.cells (tokL t) 29 false 0] = L0 at *
  obtain ⟨e0, e1, e2, e3, e4⟩ := tok_cell g0
  have hnil : ByteArray.mk #[] = txt [] := rfl
  rw [hnil, e0]
  simp only [Option.bind_some, asI_int, obind_some]
  unfold pieces
  rcases tokShape_cases hsh with ⟨k1, q1, q2, q3⟩ | ⟨k1, q1, q2, q3, q4, q5, q6⟩ | ⟨k1, q1, q2, q3, q4, q5, q6⟩
  · rw [if_pos k1, show (t.k == 1) = true by rw [k1]; rfl, lif_true, e1]
    simp only [Option.bind_some, asI_int, obind_some]
    obtain ⟨_, hb⟩ := hw
    rw [wI64 (n := t.b) (by omega) (by omega)]
    refine ⟨⟨some ⟨L0.length, 0, none⟩, 1, 1⟩, _, rfl, st0.trans (.push _ _ _), rfl, ?_⟩
    rw [src_row (q := 1) (z := 3) (by rfl) (by omega)]
    rfl
  · -- a match
    have hb1 : nlen t.d.toNat ≤ 16 := nlen_le (by omega)
    have hb2 : nlen (t.l - 3).toNat ≤ 8 := nlen_le (by omega)
    obtain ⟨dn, hdn⟩ : ∃ dn : Nat, t.d = (dn : Int) := ⟨t.d.toNat, by omega⟩
    obtain ⟨ln, hln⟩ : ∃ ln : Nat, t.l = (ln : Int) + 3 := ⟨(t.l - 3).toNat, by omega⟩
    have en2 : t.l - 3 = (ln : Int) := by omega
    have hd' : t.d.toNat = dn := by omega
    have hb3 : nlen dn ≤ 16 := by rw [← hd']; exact hb1
    rw [if_neg (by omega), if_pos k1, show (t.k == 1) = false by rw [k1]; rfl, lif_false, e4]
    simp only [Option.bind_some, asI_int, obind_some]
    have g1 : ∀ X : LHeap, (L0 ++ X)[c]? = some (.cells (tokL t) 29 false 0) := fun X => by rw [get_push hlt, g0]
    obtain ⟨a0, a1, a2, a3, a4⟩ := tok_cell (g1 [LBlk.cells [Value.int IntKind.i64 (IntKind.wrap IntKind.i64 (257 + t.s)), Value.int IntKind.i64 (-1), Value.string (txt [])] 48 false 0])
    rw [a0]
    simp only [Option.bind_some, asI_int, obind_some]
    rw [show (t.k == 2) = true by rw [k1]; rfl, lif_true, a3]
    simp only [Option.bind_some, asI_int, obind_some]
    have st1 : Step [] L0 [] (L0 ++ [LBlk.cells [Value.int IntKind.i64 (IntKind.wrap IntKind.i64 (257 + t.s)), Value.int IntKind.i64 (-1), Value.string (txt [])] 48 false 0]) := .push _ _ _
    have g1' := g1 [LBlk.cells [Value.int IntKind.i64 (IntKind.wrap IntKind.i64 (257 + t.s)), Value.int IntKind.i64 (-1), Value.string (txt [])] 48 false 0]
    generalize L0 ++ [LBlk.cells [Value.int IntKind.i64 (IntKind.wrap IntKind.i64 (257 + t.s)), Value.int IntKind.i64 (-1), Value.string (txt [])] 48 false 0] = L1 at *
    have hlt1 := get_lt g1'
    rw [hdn, size_ok (by omega) (by omega)]
    simp only [lbindR_ret, asI_int, obind_some]
    rw [a3]
    simp only [Option.bind_some, asI_int, obind_some, same_self, when_true]
    rw [hdn, rest_ok (by omega) (by omega)]
    simp only [lbindR_ret, asS_string, obind_some]
    have st2 : Step [] L1 [] (L1 ++ [LBlk.cells [Value.int IntKind.i64 (IntKind.wrap IntKind.i64 (260 + ((nlen dn : Nat) : Int))), Value.int IntKind.i64 (-1), Value.string (txt (numBits dn))] 48 false 0]) := .push _ _ _
    have g2 : (L1 ++ [LBlk.cells [Value.int IntKind.i64 (IntKind.wrap IntKind.i64 (260 + ((nlen dn : Nat) : Int))), Value.int IntKind.i64 (-1), Value.string (txt (numBits dn))] 48 false 0])[c]? = some (.cells (tokL t) 29 false 0) := by rw [get_push hlt1, g1']
    have p2 : (L1 ++ [LBlk.cells [Value.int IntKind.i64 (IntKind.wrap IntKind.i64 (260 + ((nlen dn : Nat) : Int))), Value.int IntKind.i64 (-1), Value.string (txt (numBits dn))] 48 false 0])[L1.length]? = some (.cells [Value.int IntKind.i64 (IntKind.wrap IntKind.i64 (260 + ((nlen dn : Nat) : Int))), Value.int IntKind.i64 (-1), Value.string (txt (numBits dn))] 48 false 0) := get_new
    rw [wI64 (n := 260 + ((nlen dn : Nat) : Int)) (by omega) (by omega)] at *
    have hlt2 : L1.length < (L1 ++ [LBlk.cells [Value.int IntKind.i64 (260 + ((nlen dn : Nat) : Int)), Value.int IntKind.i64 (-1), Value.string (txt (numBits dn))] 48 false 0]).length := by simp
    generalize hb : L1.length = b at *
    generalize L1 ++ [LBlk.cells [Value.int IntKind.i64 (260 + ((nlen dn : Nat) : Int)), Value.int IntKind.i64 (-1), Value.string (txt (numBits dn))] 48 false 0] = L2 at *
    obtain ⟨a0, a1, a2, a3, a4⟩ := tok_cell g2
    rw [a2]
    simp only [Option.bind_some, asI_int, obind_some]
    rw [en2, wI64 (n := (ln : Int)) (by omega) (by omega), size_ok (by omega) (by omega)]
    simp only [lbindR_ret, asI_int, obind_some]
    rw [a2]
    simp only [Option.bind_some, asI_int, obind_some, same_self, when_true]
    rw [en2, wI64 (n := (ln : Int)) (by omega) (by omega), rest_ok (by omega) (by omega)]
    simp only [lbindR_ret, asS_string, obind_some]
    rw [size48, bytes48, src_row (by rfl) (by omega)]
    simp only [obind_some]
    rw [app_one (cs := [Value.int IntKind.i64 (260 + ((nlen dn : Nat) : Int)), Value.int IntKind.i64 (-1), Value.string (txt (numBits dn))]) (e' := 48) (ro := false) (sp := 0) (by rw [get_push hlt2, p2]) (by rfl) (by omega)]
    simp only [obind_some]
    refine ⟨⟨some ⟨_, 0, none⟩, 2, OPEN⟩, _, rfl, (((st0.trans st1).trans st2).trans (.push _ _ _)).trans (.push _ _ _), rfl, ?_⟩
    rw [src_row (q := 2) (z := 3) (by rfl) (by omega)]
    simp only [Int.toNat_natCast]
    rfl
  · -- again
    have hb2 : nlen (t.l - 3).toNat ≤ 8 := nlen_le (by omega)
    obtain ⟨ln, hln⟩ : ∃ ln : Nat, t.l = (ln : Int) + 3 := ⟨(t.l - 3).toNat, by omega⟩
    have en2 : t.l - 3 = (ln : Int) := by omega
    rw [if_neg (by omega), if_neg (by omega), show (t.k == 1) = false by rw [k1]; rfl, lif_false, e4]
    simp only [Option.bind_some, asI_int, obind_some]
    rw [wI64 (n := 257 + t.s) (by omega) (by omega)]
    have g1' : (L0 ++ [LBlk.cells [Value.int IntKind.i64 (257 + t.s), Value.int IntKind.i64 (-1), Value.string (txt [])] 48 false 0])[c]? = some (.cells (tokL t) 29 false 0) := by rw [get_push hlt, g0]
    have p1 : (L0 ++ [LBlk.cells [Value.int IntKind.i64 (257 + t.s), Value.int IntKind.i64 (-1), Value.string (txt [])] 48 false 0])[L0.length]? = some (.cells [Value.int IntKind.i64 (257 + t.s), Value.int IntKind.i64 (-1), Value.string (txt [])] 48 false 0) := get_new
    have st1 : Step [] L0 [] (L0 ++ [LBlk.cells [Value.int IntKind.i64 (257 + t.s), Value.int IntKind.i64 (-1), Value.string (txt [])] 48 false 0]) := .push _ _ _
    have hlt2 : L0.length < (L0 ++ [LBlk.cells [Value.int IntKind.i64 (257 + t.s), Value.int IntKind.i64 (-1), Value.string (txt [])] 48 false 0]).length := by simp
    generalize hb : L0.length = b at *
    generalize L0 ++ [LBlk.cells [Value.int IntKind.i64 (257 + t.s), Value.int IntKind.i64 (-1), Value.string (txt [])] 48 false 0] = L1 at *
    obtain ⟨a0, a1, a2, a3, a4⟩ := tok_cell g1'
    rw [a0]
    simp only [Option.bind_some, asI_int, obind_some]
    rw [show (t.k == 2) = false by rw [k1]; rfl, lif_false, a2]
    simp only [Option.bind_some, asI_int, obind_some]
    rw [en2, wI64 (n := (ln : Int)) (by omega) (by omega), size_ok (by omega) (by omega)]
    simp only [lbindR_ret, asI_int, obind_some]
    rw [a2]
    simp only [Option.bind_some, asI_int, obind_some, same_self, when_true]
    rw [en2, wI64 (n := (ln : Int)) (by omega) (by omega), rest_ok (by omega) (by omega)]
    simp only [lbindR_ret, asS_string, obind_some]
    rw [size48, bytes48, src_row (by rfl) (by omega)]
    simp only [obind_some]
    rw [app_one (cs := [Value.int IntKind.i64 (257 + t.s), Value.int IntKind.i64 (-1), Value.string (txt [])]) (e' := 48) (ro := false) (sp := 0) (by rw [get_push hlt2, p1]) (by rfl) (by omega)]
    simp only [obind_some]
    refine ⟨⟨some ⟨_, 0, none⟩, 2, OPEN⟩, _, rfl, ((st0.trans st1).trans (.push _ _ _)).trans (.push _ _ _), rfl, ?_⟩
    rw [src_row (q := 2) (z := 3) (by rfl) (by omega)]
    simp only [Int.toNat_natCast]
    rfl
theorem pieces_len (t : Tok) : 1 ≤ (pieces t).length ∧ (pieces t).length ≤ 2 := by
  unfold pieces
  split
  · simp
  · split <;> simp
/-- All pieces. -/
theorem rall_loop {k : Nat} {l : Sl} {ts : List Tok} {A : List Nat} (hw : ∀ t ∈ ts, t.wf) (hs : ts.length ≤ 1048576) (hk : 100 ≤ k) :
    ∀ (q i j : Nat) (l1 : Sl) (acc : List Pc) (F : List Nat) (L : LHeap), i + q = ts.length → q < j → RT L l ts A → Apart F A → OZ L l1 (acc.flatMap pcL) 48 3 F → acc.length ≤ 2 * i →
    ((∀ t ∈ ts.drop i, tokShape t = true) → ∃ l' L' F', f15_l3 k j l l1 (i : Int) L = f15_l3 k (j - q) l l' (ts.length : Int) L' ∧ OZ L' l' ((acc ++ (ts.drop i).flatMap pieces).flatMap pcL) 48 3 F' ∧ Step F L F' L') ∧
    ((¬ ∀ t ∈ ts.drop i, tokShape t = true) → ∃ L', f15_l3 k j l l1 (i : Int) L = some (.ret (.tuple #[.string ⟨#[]⟩, .int .i64 4]) L') ∧ Step F L [] L') := by
  intro q
  induction q with
  | zero =>
    intro i j l1 acc F L hi hj hl hA hO ha
    rw [List.drop_of_length_le (by omega)]
    exact ⟨fun _ => ⟨l1, L, F, by rw [Nat.sub_zero, show i = ts.length by omega], by simpa using hO, .refl _ _⟩, fun h => absurd (fun t ht => by cases ht) h⟩
  | succ q ih =>
    intro i j l1 acc F L hi hj hl hA hO ha
    obtain ⟨j, rfl⟩ : ∃ j', j = j' + 1 := ⟨j - 1, by omega⟩
    have hi2 : i < ts.length := by omega
    have hn := hl.len
    obtain ⟨a, a1, a2⟩ := hl.here (List.getElem?_eq_getElem hi2)
    obtain ⟨d0, d1, d2, d3, d4⟩ := a2 L fun _ _ => rfl
    have htm : ts[i] ∈ ts := List.getElem_mem hi2
    have hdr : ts.drop i = ts[i] :: ts.drop (i + 1) := List.drop_eq_getElem_cons hi2
    generalize ts[i] = t at *
    rw [f15_l3_eq, decide_eq_true (by omega), lif_true, a1, obind_some]
    rw [d0]; simp only [Option.bind_some, asI_int, obind_some]
    rw [d1]; simp only [Option.bind_some, asI_int, obind_some]
    rw [d2]; simp only [Option.bind_some, asI_int, obind_some]
    rw [d3]; simp only [Option.bind_some, asI_int, obind_some]
    rw [d4]; simp only [Option.bind_some, asI_int, obind_some]
    obtain ⟨L1, b1, b2⟩ := rshape_ok (k := k) (t := t) (L := L) (by omega)
    rw [b1]
    simp only [lbind_ret, asB_bool, obind_some]
    have hl1 := hl.mono (b2.others hl.within fun i hi => by cases hi)
    have hO1 := hO.mono (b2.others hO.within fun i hi => by cases hi)
    obtain ⟨d0, d1, d2, d3, d4⟩ := a2 L1 (b2.others hl.within fun i hi => by cases hi)
    cases hsh : tokShape t with
    | false =>
      rw [Bool.not_false, lif_true]
      exact ⟨fun h => absurd (h t (by rw [hdr]; simp)) (by simp [hsh]), fun _ => ⟨L1, rfl, b2.mono fun i hi => by cases hi⟩⟩
    | true =>
      rw [Bool.not_true, lif_false]
      rw [d0]; simp only [Option.bind_some, asI_int, obind_some]
      rw [d1]; simp only [Option.bind_some, asI_int, obind_some]
      rw [d2]; simp only [Option.bind_some, asI_int, obind_some]
      rw [d3]; simp only [Option.bind_some, asI_int, obind_some]
      rw [d4]; simp only [Option.bind_some, asI_int, obind_some]
      obtain ⟨s', L2, c1, c2, c3, c4⟩ := pieces_ok (k := k) (L := L1) hsh (hw t htm) (by omega)
      rw [c1, lbind_ret, asSl_slice, obind_some, size48, bytes48, c4, obind_some]
      have hl2 := hl1.mono (c2.others hl1.within fun i hi => by cases hi)
      have hO2 := hO1.mono (c2.others hO1.within fun i hi => by cases hi)
      have hpl := pieces_len t
      have hon : l1.n * 3 = acc.length * 3 := by rw [hO2.1, pcs_len]
      obtain ⟨l', L3, F3, p1, p2, p3, p4⟩ := hO2.app ((pieces t).flatMap pcL) s'.n 32 (by omega) (by rw [pcs_len, c3]) (by omega) (by omega)
      rw [p1, obind_some, wI64 (by omega) (by omega), show (i : Int) + 1 = ((i + 1 : Nat) : Int) by omega]
      rw [← List.flatMap_append] at p2
      have st : Step F L F3 L3 := (Step.wide b2 (by simp)).trans ((Step.wide c2 (by simp)).trans p4)
      obtain ⟨r1, r2⟩ := ih (i + 1) j l' (acc ++ pieces t) F3 L3 (by omega) (by omega) (hl2.mono (p4.others hl2.within hA)) (p4.apart hl2.within hA) p2 (by simp; omega)
      have hiff : (∀ u ∈ ts.drop i, tokShape u = true) ↔ ∀ u ∈ ts.drop (i + 1), tokShape u = true := by
        rw [hdr]
        constructor
        · intro h u hu; exact h u (by simp [hu])
        · intro h u hu
          rcases List.mem_cons.1 hu with rfl | hu
          · exact hsh
          · exact h u hu
      constructor
      · intro h
        obtain ⟨l'', L', F', x1, x2, x3⟩ := r1 (hiff.1 h)
        refine ⟨l'', L', F', by rw [x1]; congr 1; omega, ?_, st.trans x3⟩
        rw [hdr, List.flatMap_cons, ← List.append_assoc]
        exact x2
      · intro h
        obtain ⟨L', x1, x2⟩ := r2 fun h2 => h (hiff.2 h2)
        exact ⟨L', x1, st.trans x2⟩
end Go.Proofs.Ytflhogapjmdkaaa.X
end

section
set_option maxRecDepth 100000
set_option linter.unusedVariables false
namespace Go.Proofs.Ytflhogapjmdkaaa.X
open Go Go.Rlm
structure PcAt (L : LHeap) (a : Addr) (p : Pc) : Prop where
  c0 : cell L (a.add 0) = some (.int .i64 p.f)
  c1 : cell L (a.add 1) = some (.int .i64 p.s)
  c2 : cell L (a.add 2) = some (.string (txt p.bits))
theorem pc_here {L : LHeap} {l : Sl} {ps : List Pc} {F : List Nat} (h : OZ L l (ps.flatMap pcL) 48 3 F) {i : Nat} {p : Pc} (hp : ps[i]? = some p) :
    ∃ a, idx l (i : Int) 3 = some a ∧ ∀ L', (∀ x ∈ F, L'[x]? = L[x]?) → PcAt L' a p := by
  have hi := get_lt hp
  have hn : l.n = ps.length := by have := h.1; rw [pcs_len] at this; omega
  obtain ⟨c, h1, h2⟩ := h.get (i := i) (by omega)
  refine ⟨⟨c, i * 3, none⟩, h1, fun L' hk => ⟨?_, ?_, ?_⟩⟩
  · rw [mk_add, h2 L' hk, pcs_get hp (j := 0) (v := .int .i64 p.f) rfl]
  · rw [mk_add, h2 L' hk, pcs_get hp (j := 1) (v := .int .i64 p.s) rfl]
  · rw [mk_add, h2 L' hk, pcs_get hp (j := 2) (v := .string (txt p.bits)) rfl]
theorem one_inc {L : LHeap} {l : Sl} {c : List Int} {F : List Nat} {n : Nat} (h : WS L l (c.map iV) 3 F) (hn : n < c.length) (hb : ∀ x ∈ c, 0 ≤ x ∧ x < 2 ^ 40) :
    ∃ a L', idx l (n : Int) 1 = some a ∧ cell L a = some (.int .i64 (c.getD n 0)) ∧ stores L a [.int .i64 (IntKind.wrap .i64 (c.getD n 0 + 1))] = some L' ∧ WS L' l ((inc c n).map iV) 3 F ∧ Step F L F L' := by
  have hg : c.getD n 0 = c[n] := by rw [List.getD_eq_getElem?_getD, List.getElem?_eq_getElem hn]; rfl
  have hbn := hb _ (List.getElem_mem hn)
  have hv : (c.map iV)[n]? = some (.int .i64 (c.getD n 0)) := by rw [List.getElem?_map, List.getElem?_eq_getElem hn, hg]; rfl
  obtain ⟨a, g1, g2⟩ := h.rd.here hv
  obtain ⟨a', L', g3, g4, g5, g6⟩ := h.put (i := n) (by simpa using hn) (iV (c.getD n 0 + 1))
  obtain rfl : a = a' := by rw [g1] at g3; exact Option.some.inj g3
  refine ⟨a, L', g1, g2, ?_, ?_, g6⟩
  · rw [wI64 (by omega) (by omega)]; exact g4
  · unfold inc; rw [List.map_set]; exact g5
def bump (c : List Int) (x : Int) : List Int := if 0 ≤ x then inc c x.toNat else c
theorem bump_length (c : List Int) (x : Int) : (bump c x).length = c.length := by unfold bump; split <;> simp
theorem bump_bound {c : List Int} {x B : Int} (h : ∀ y ∈ c, 0 ≤ y ∧ y ≤ B) (hB : 0 ≤ B) : ∀ y ∈ bump c x, 0 ≤ y ∧ y ≤ B + 1 := by
  unfold bump
  split
  · exact inc_bound h hB
  · intro y hy; have := h y hy; omega
theorem rcount_loop {k : Nat} {l0 l1 l2 : Sl} {ps : List Pc} {Fp F1 F2 : List Nat} (hs : ps.length < 2 ^ 30) (hf : ∀ p ∈ ps, p.f < 277 ∧ p.s < 9) (ap12 : Apart F1 F2) (ap1 : Apart F1 Fp) (ap2 : Apart F2 Fp) :
    ∀ (q i j : Nat) (c1 c2 : List Int) (L : LHeap), i + q = ps.length → q < j → OZ L l0 (ps.flatMap pcL) 48 3 Fp → WS L l1 (c1.map iV) 3 F1 → WS L l2 (c2.map iV) 3 F2 → c1.length = 277 → c2.length = 9 →
      (∀ x ∈ c1, 0 ≤ x ∧ x ≤ (i : Int)) → (∀ x ∈ c2, 0 ≤ x ∧ x ≤ (i : Int)) →
    ∃ L', f15_l11 k j l0 l1 l2 (i : Int) L = f15_l11 k (j - q) l0 l1 l2 (ps.length : Int) L' ∧ OZ L' l0 (ps.flatMap pcL) 48 3 Fp ∧ WS L' l1 (((ps.drop i).foldl (fun c p => bump c p.f) c1).map iV) 3 F1 ∧
      WS L' l2 (((ps.drop i).foldl (fun c p => bump c p.s) c2).map iV) 3 F2 ∧ Step (F1 ++ F2) L (F1 ++ F2) L' := by
  intro q
  induction q with
  | zero =>
    intro i j c1 c2 L hi hj hO h1 h2 _ _ _ _
    rw [List.drop_of_length_le (by omega)]
    exact ⟨L, by rw [Nat.sub_zero, show i = ps.length by omega], hO, h1, h2, .refl _ _⟩
  | succ q ih =>
    intro i j c1 c2 L hi hj hO h1 h2 n1 n2 b1 b2
    obtain ⟨j, rfl⟩ : ∃ j', j = j' + 1 := ⟨j - 1, by omega⟩
    have hi2 : i < ps.length := by omega
    have hn : l0.n = ps.length := by have := hO.1; rw [pcs_len] at this; omega
    obtain ⟨a, a1, a2⟩ := pc_here hO (List.getElem?_eq_getElem hi2)
    have hpm := hf _ (List.getElem_mem hi2)
    have hdr : ps.drop i = ps[i] :: ps.drop (i + 1) := List.drop_eq_getElem_cons hi2
    generalize ps[i] = p at *
    have w1 : ∀ {M : LHeap}, Step F1 L F1 M → Step (F1 ++ F2) L (F1 ++ F2) M := fun h => Step.wide h fun i hi => by simp [hi]
    have fin : ∀ (M : LHeap), OZ M l0 (ps.flatMap pcL) 48 3 Fp → WS M l1 ((bump c1 p.f).map iV) 3 F1 → WS M l2 ((bump c2 p.s).map iV) 3 F2 → Step (F1 ++ F2) L (F1 ++ F2) M →
        ∃ L', f15_l11 k j l0 l1 l2 (IntKind.wrap .i64 ((i : Int) + 1)) M = f15_l11 k (j + 1 - (q + 1)) l0 l1 l2 (ps.length : Int) L' ∧ OZ L' l0 (ps.flatMap pcL) 48 3 Fp ∧ WS L' l1 (((ps.drop i).foldl (fun c p => bump c p.f) c1).map iV) 3 F1 ∧
          WS L' l2 (((ps.drop i).foldl (fun c p => bump c p.s) c2).map iV) 3 F2 ∧ Step (F1 ++ F2) L (F1 ++ F2) L' := by
      intro M hMO hM1 hM2 hS
      rw [wI64 (by omega) (by omega), show (i : Int) + 1 = ((i + 1 : Nat) : Int) by omega]
      obtain ⟨L', x1, x2, x3, x4, x5⟩ := ih (i + 1) j (bump c1 p.f) (bump c2 p.s) M (by omega) (by omega) hMO hM1 hM2 (by rw [bump_length, n1]) (by rw [bump_length, n2])
        (fun x hx => by have := bump_bound b1 (by omega) x hx; omega) (fun x hx => by have := bump_bound b2 (by omega) x hx; omega)
      rw [hdr, List.foldl_cons, List.foldl_cons]
      exact ⟨L', by rw [x1, show j + 1 - (q + 1) = j - q by omega], x2, x3, x4, hS.trans x5⟩
    obtain ⟨d0, d1, d2⟩ := a2 L fun _ _ => rfl
    rw [f15_l11_eq, decide_eq_true (by omega), lif_true, a1, obind_some, d0, Option.bind_some, asI_int, obind_some]
    by_cases hpf : 0 ≤ p.f
    · obtain ⟨fn, hfn⟩ : ∃ fn : Nat, p.f = (fn : Int) := ⟨p.f.toNat, by omega⟩
      obtain ⟨e, L1, e1, e2, e3, e4, e5⟩ := one_inc (n := fn) h1 (by omega) (fun x hx => by have := b1 x hx; omega)
      have hbump : bump c1 p.f = inc c1 fn := by unfold bump; rw [if_pos hpf, hfn]; rfl
      have hO1 := hO.mono (e5.others hO.within ap1)
      have h21 := h2.mono (e5.others h2.within ap12)
      obtain ⟨d0', d1', d2'⟩ := a2 L1 (e5.others hO.within ap1)
      rw [decide_eq_true (show p.f ≥ 0 from hpf), lif_true, obind_some, d0, Option.bind_some, asI_int, obind_some, hfn, e1, obind_some, e2, Option.bind_some, asI_int, obind_some, obind_some, e3, obind_some, obind_some, d1', Option.bind_some, asI_int, obind_some]
      by_cases hps : 0 ≤ p.s
      · obtain ⟨sn, hsn⟩ : ∃ sn : Nat, p.s = (sn : Int) := ⟨p.s.toNat, by omega⟩
        obtain ⟨g, L2, g1, g2, g3, g4, g5⟩ := one_inc (n := sn) h21 (by omega) (fun x hx => by have := b2 x hx; omega)
        have hbump2 : bump c2 p.s = inc c2 sn := by unfold bump; rw [if_pos hps, hsn]; rfl
        rw [decide_eq_true (show p.s ≥ 0 from hps), lif_true, obind_some, d1', Option.bind_some, asI_int, obind_some, hsn, g1, obind_some, g2, Option.bind_some, asI_int, obind_some, obind_some, g3, obind_some]
        refine fin L2 (hO1.mono (g5.others hO1.within ap2)) ?_ (by rw [hbump2]; exact g4) ((w1 e5).trans (Step.wide g5 fun i hi => by simp [hi]))
        rw [hbump]
        exact e4.mono (g5.others e4.within ap12.symm)
      · rw [decide_eq_false (show ¬ p.s ≥ 0 from hps), lif_false]
        have hbump2 : bump c2 p.s = c2 := by unfold bump; rw [if_neg hps]
        exact fin L1 hO1 (by rw [hbump]; exact e4) (by rw [hbump2]; exact h21) (w1 e5)
    · have hbump : bump c1 p.f = c1 := by unfold bump; rw [if_neg hpf]
      rw [decide_eq_false (show ¬ p.f ≥ 0 from hpf), lif_false, obind_some, d1, Option.bind_some, asI_int, obind_some]
      by_cases hps : 0 ≤ p.s
      · obtain ⟨sn, hsn⟩ : ∃ sn : Nat, p.s = (sn : Int) := ⟨p.s.toNat, by omega⟩
        obtain ⟨g, L2, g1, g2, g3, g4, g5⟩ := one_inc (n := sn) h2 (by omega) (fun x hx => by have := b2 x hx; omega)
        have hbump2 : bump c2 p.s = inc c2 sn := by unfold bump; rw [if_pos hps, hsn]; rfl
        rw [decide_eq_true (show p.s ≥ 0 from hps), lif_true, obind_some, d1, Option.bind_some, asI_int, obind_some, hsn, g1, obind_some, g2, Option.bind_some, asI_int, obind_some, obind_some, g3, obind_some]
        refine fin L2 (hO.mono (g5.others hO.within ap2)) ?_ (by rw [hbump2]; exact g4) (Step.wide g5 fun i hi => by simp [hi])
        rw [hbump]
        exact h1.mono (g5.others h1.within ap12.symm)
      · rw [decide_eq_false (show ¬ p.s ≥ 0 from hps), lif_false]
        have hbump2 : bump c2 p.s = c2 := by unfold bump; rw [if_neg hps]
        exact fin L hO (by rw [hbump]; exact h1) (by rw [hbump2]; exact h2) (.refl _ _)
theorem bump_get {α : Type} (g : α → Int) : ∀ (ps : List α) (c : List Int) (i : Nat), i < c.length → (∀ p ∈ ps, g p < (c.length : Int)) →
    (ps.foldl (fun c p => bump c (g p)) c)[i]? = some (c.getD i 0 + ((ps.filter fun p => g p == (i : Int)).length : Nat))
  | [], c, i, hi, _ => by simp [List.getD_eq_getElem?_getD, List.getElem?_eq_getElem hi]
  | p :: ps, c, i, hi, hg => by
    rw [List.foldl_cons, bump_get g ps (bump c (g p)) i (by rw [bump_length]; exact hi) fun q hq => by rw [bump_length]; exact hg q (by simp [hq])]
    have hgp := hg p (by simp)
    congr 1
    unfold bump
    by_cases h0 : 0 ≤ g p
    · rw [if_pos h0]
      unfold inc
      by_cases he : g p = (i : Int)
      · rw [List.filter_cons_of_pos (by simpa using he), show (g p).toNat = i by omega, List.getD_eq_getElem?_getD, List.getElem?_set_self hi]
        simp
        omega
      · rw [List.filter_cons_of_neg (by simpa using he), List.getD_eq_getElem?_getD, List.getElem?_set_ne (by omega), ← List.getD_eq_getElem?_getD]
    · rw [if_neg h0, List.filter_cons_of_neg (by simp; omega)]
theorem bump_len {α : Type} (g : α → Int) : ∀ (ps : List α) (c : List Int), (ps.foldl (fun c p => bump c (g p)) c).length = c.length
  | [], _ => rfl
  | p :: ps, c => by rw [List.foldl_cons, bump_len g ps, bump_length]
def allPc (ts : List Tok) : List Pc := ts.flatMap pieces ++ [⟨256, -1, []⟩]
theorem pieces_f {t : Tok} (hsh : tokShape t = true) (hw : t.wf) (i : Nat) : ((pieces t).filter fun p => p.f == (i : Int)).length = if sym1 t = i then 1 else 0 := by
  unfold pieces sym1
  obtain ⟨_, hb⟩ := hw
  rcases tokShape_cases hsh with ⟨k1, q1, q2, q3⟩ | ⟨k1, q1, q2, q3, q4, q5, q6⟩ | ⟨k1, q1, q2, q3, q4, q5, q6⟩
  · rw [if_pos k1, if_pos k1]
    by_cases h : t.b.toNat = i
    · rw [if_pos h, List.filter_cons_of_pos (by simp; omega)]; rfl
    · rw [if_neg h, List.filter_cons_of_neg (by first | (simp; done) | (simp; omega))]; rfl
  · rw [k1]
    simp only [show ¬ ((2 : Int) = 1) by decide, if_false, if_true]
    by_cases h : 260 + nlen t.d.toNat = i
    · rw [if_pos h, List.filter_cons_of_pos (by simp; omega), List.filter_cons_of_neg (by first | (simp; done) | (simp; omega))]; rfl
    · rw [if_neg h, List.filter_cons_of_neg (by first | (simp; done) | (simp; omega)), List.filter_cons_of_neg (by first | (simp; done) | (simp; omega))]; rfl
  · rw [k1]
    simp only [show ¬ ((3 : Int) = 1) by decide, show ¬ ((3 : Int) = 2) by decide, if_false]
    by_cases h : 257 + t.s.toNat = i
    · rw [if_pos h, List.filter_cons_of_pos (by simp; omega), List.filter_cons_of_neg (by first | (simp; done) | (simp; omega))]; rfl
    · rw [if_neg h, List.filter_cons_of_neg (by first | (simp; done) | (simp; omega)), List.filter_cons_of_neg (by first | (simp; done) | (simp; omega))]; rfl
theorem pieces_s {t : Tok} (hsh : tokShape t = true) (i : Nat) : ((pieces t).filter fun p => p.s == (i : Int)).length = if (t.k != 1 && sym2 t == i) = true then 1 else 0 := by
  unfold pieces sym2
  rcases tokShape_cases hsh with ⟨k1, q1, q2, q3⟩ | ⟨k1, q1, q2, q3, q4, q5, q6⟩ | ⟨k1, q1, q2, q3, q4, q5, q6⟩
  · rw [if_pos k1, List.filter_cons_of_neg (by first | (simp; done) | (simp; omega)), if_neg (by simp [k1])]; rfl
  · rw [if_neg (by omega), if_pos k1, List.filter_cons_of_neg (by first | (simp; done) | (simp; omega))]
    by_cases h : nlen (t.l - 3).toNat = i
    · rw [if_pos (by simp [k1, h]), List.filter_cons_of_pos (by simp; omega)]; rfl
    · rw [if_neg (by simp [h]), List.filter_cons_of_neg (by first | (simp; done) | (simp; omega))]; rfl
  · rw [if_neg (by omega), if_neg (by omega), List.filter_cons_of_neg (by first | (simp; done) | (simp; omega))]
    by_cases h : nlen (t.l - 3).toNat = i
    · rw [if_pos (by simp [k1, h]), List.filter_cons_of_pos (by simp; omega)]; rfl
    · rw [if_neg (by simp [h]), List.filter_cons_of_neg (by first | (simp; done) | (simp; omega))]; rfl
theorem flat_count {g : Pc → Bool} {h : Tok → Bool} : ∀ (ts : List Tok), (∀ t ∈ ts, ((pieces t).filter g).length = if h t = true then 1 else 0) → ((ts.flatMap pieces).filter g).length = (ts.filter h).length
  | [], _ => rfl
  | t :: ts, hh => by
    rw [List.flatMap_cons, List.filter_append, List.length_append, flat_count ts fun u hu => hh u (by simp [hu]), hh t (by simp)]
    cases hb : h t with
    | true => rw [List.filter_cons_of_pos hb]; simp; omega
    | false => rw [List.filter_cons_of_neg (by simp [hb])]; simp
theorem pieces_lt {t : Tok} (hsh : tokShape t = true) (hw : t.wf) : ∀ p ∈ pieces t, p.f < 277 ∧ p.s < 9 := by
  intro p hp
  obtain ⟨_, hb⟩ := hw
  unfold pieces at hp
  rcases tokShape_cases hsh with ⟨k1, q1, q2, q3⟩ | ⟨k1, q1, q2, q3, q4, q5, q6⟩ | ⟨k1, q1, q2, q3, q4, q5, q6⟩
  · rw [if_pos k1] at hp
    rw [List.mem_singleton.1 hp]
    exact ⟨by simp only; omega, by simp⟩
  · have hb1 : nlen t.d.toNat ≤ 16 := nlen_le (by omega)
    have hb2 : nlen (t.l - 3).toNat ≤ 8 := nlen_le (by omega)
    rw [if_neg (by omega), if_pos k1] at hp
    simp only [List.mem_cons, List.mem_nil_iff, or_false] at hp
    rcases hp with rfl | rfl
    · exact ⟨by simp only; omega, by simp⟩
    · exact ⟨by simp, by simp only; omega⟩
  · have hb2 : nlen (t.l - 3).toNat ≤ 8 := nlen_le (by omega)
    rw [if_neg (by omega), if_neg (by omega)] at hp
    simp only [List.mem_cons, List.mem_nil_iff, or_false] at hp
    rcases hp with rfl | rfl
    · exact ⟨by simp only; omega, by simp⟩
    · exact ⟨by simp, by simp only; omega⟩
theorem allPc_lt {ts : List Tok} (hs : ∀ t ∈ ts, tokShape t = true) (hw : ∀ t ∈ ts, t.wf) : ∀ p ∈ allPc ts, p.f < 277 ∧ p.s < 9 := by
  intro p hp
  unfold allPc at hp
  rcases List.mem_append.1 hp with hp | hp
  · obtain ⟨t, ht, hp⟩ := List.mem_flatMap.1 hp
    exact pieces_lt (hs t ht) (hw t ht) p hp
  · rw [List.mem_singleton.1 hp]
    exact ⟨by simp, by simp⟩
theorem allPc_len (ts : List Tok) : (allPc ts).length ≤ 2 * ts.length + 1 := by
  unfold allPc
  rw [List.length_append, List.length_singleton]
  induction ts with
  | nil => simp
  | cons t ts ih =>
    have := (pieces_len t).2
    rw [List.flatMap_cons, List.length_append]
    simp only [List.length_cons]
    omega
theorem count1 {ts : List Tok} (hs : ∀ t ∈ ts, tokShape t = true) (hw : ∀ t ∈ ts, t.wf) : (allPc ts).foldl (fun c p => bump c p.f) (List.replicate 277 0) = freq1 ts := by
  refine List.ext_getElem? fun i => ?_
  by_cases hi : i < 277
  · rw [bump_get (fun p : Pc => p.f) _ _ i (by simpa using hi) fun p hp => by have := (allPc_lt hs hw p hp).1; simpa using this]
    have e : (freq1 ts)[i]? = some (((ts.filter fun t => sym1 t == i).length + (if i = 256 then 1 else 0) : Nat) : Int) := by simp [freq1, hi]
    rw [e]
    congr 1
    rw [List.getD_eq_getElem?_getD, List.getElem?_replicate, if_pos hi, Option.getD_some]
    unfold allPc
    rw [List.filter_append, List.length_append, flat_count (h := fun t => sym1 t == i) ts fun t ht => by
      rw [pieces_f (hs t ht) (hw t ht)]
      simp]
    have e2 : (List.filter (fun p : Pc => p.f == (i : Int)) [⟨256, -1, []⟩]).length = if i = 256 then 1 else 0 := by
      by_cases h : i = 256
      · subst h; rfl
      · rw [if_neg h, List.filter_cons_of_neg (by first | (simp; done) | (simp; omega))]; rfl
    rw [e2]
    omega
  · rw [List.getElem?_eq_none (by rw [bump_len (fun p : Pc => p.f)]; simp; omega), List.getElem?_eq_none (by simp; omega)]
theorem count2 {ts : List Tok} (hs : ∀ t ∈ ts, tokShape t = true) (hw : ∀ t ∈ ts, t.wf) : (allPc ts).foldl (fun c p => bump c p.s) (List.replicate 9 0) = freq2 ts := by
  refine List.ext_getElem? fun i => ?_
  by_cases hi : i < 9
  · rw [bump_get (fun p : Pc => p.s) _ _ i (by simpa using hi) fun p hp => by have := (allPc_lt hs hw p hp).2; simpa using this]
    have e : (freq2 ts)[i]? = some (((ts.filter fun t => t.k != 1 && sym2 t == i).length : Nat) : Int) := by simp [freq2, hi]
    rw [e]
    congr 1
    rw [List.getD_eq_getElem?_getD, List.getElem?_replicate, if_pos hi, Option.getD_some]
    unfold allPc
    rw [List.filter_append, List.length_append, flat_count (h := fun t => t.k != 1 && sym2 t == i) ts fun t ht => by rw [pieces_s (hs t ht)]]
    rw [List.filter_cons_of_neg (by first | (simp; done) | (simp; omega))]
    simp
  · rw [List.getElem?_eq_none (by rw [bump_len (fun p : Pc => p.s)]; simp; omega), List.getElem?_eq_none (by simp; omega)]
end Go.Proofs.Ytflhogapjmdkaaa.X
end

section
set_option maxRecDepth 100000
set_option linter.unusedVariables false
namespace Go.Proofs.Ytflhogapjmdkaaa.X
open Go Go.Rlm
def tx (bs : List Bool) : List Nat := bs.map fun b => if b then 49 else 48
theorem tx_len (bs : List Bool) : (tx bs).length = bs.length := by simp [tx]
theorem tx_cells (bs : List Bool) : byteCells (txt bs) = (tx bs).map bV := by
  simp only [byteCells, txt, tx, List.map_map]
  refine List.map_congr_left fun b _ => ?_
  cases b <;> rfl
theorem tx_small (bs : List Bool) : ∀ n ∈ tx bs, n < 256 := by
  intro n hn
  obtain ⟨b, _, rfl⟩ := List.mem_map.1 hn
  cases b <;> decide
theorem tx_str (bs : List Bool) : strOf (tx bs) = txt bs := by
  apply ByteArray.ext
  simp only [strOf, txt, tx, List.map_map]
  congr 1
  refine List.map_congr_left fun b _ => ?_
  cases b <;> rfl
theorem txt_whole (bs : List Bool) : (txt bs).extract 0 (txt bs).size = txt bs := by
  rw [txt_extract, txt_size, List.drop_zero, List.take_length]
theorem text_app {L : LHeap} {l : Sl} {bs : List Bool} {F : List Nat} (h : OS L l ((tx bs).map bV) 5 F) (cs : List Bool) (hs : bs.length + cs.length < 2 ^ 40) :
    ∃ x F', app L 5 1 1 l (txt cs).size (byteCells ((txt cs).extract 0 (txt cs).size)) = some x ∧ OS x.2 x.1 ((tx (bs ++ cs)).map bV) 5 F' ∧ Step F L F' x.2 := by
  rw [txt_whole, tx_cells, txt_size]
  obtain ⟨s', L', F', h1, h2, h3⟩ := h.app ((tx cs).map bV) 1 (by simp [tx_len]; omega) (by simp [tx_len]; omega)
  rw [List.length_map, tx_len] at h1
  refine ⟨(s', L'), F', h1, ?_, h3⟩
  rw [show tx (bs ++ cs) = tx bs ++ tx cs from List.map_append, List.map_append]
  exact h2
theorem sym_read {k n : Nat} {l c : Sl} {z : List Int} {A B : List Nat} {L : LHeap} (hm : may z = true) (hl : Rd L l (z.map iV) A) (hc : Rd L c ((codesOf z).map uV) B) (hn : n < z.length) (hk : 50 ≤ k) :
    ∃ a b, idx c (n : Int) 1 = some a ∧ cell L a = some (.int .u32 ((codeAt z n : Nat) : Int)) ∧ idx l (n : Int) 1 = some b ∧ cell L b = some (.int .i64 (z.getD n 0)) ∧
      f31 k ((codeAt z n : Nat) : Int) (z.getD n 0) L = some (.ret (.string (txt (symBits z n))) L) := by
  have hg : z.getD n 0 = z[n] := by rw [List.getD_eq_getElem?_getD, List.getElem?_eq_getElem hn]; rfl
  have hz := okLen_mem (may_ok hm).1 (List.getElem_mem hn)
  obtain ⟨a, a1, a2⟩ := hc.here (i := n) (v := uV (codeAt z n)) (by rw [List.getElem?_map, codesOf_get hn]; rfl)
  obtain ⟨b, b1, b2⟩ := hl.here (i := n) (v := iV (z.getD n 0)) (by rw [List.getElem?_map, List.getElem?_eq_getElem hn, hg]; rfl)
  refine ⟨a, b, a1, a2, b1, b2, ?_⟩
  have hcl := codeAt_le hm n
  have := bits40_ok (k := k) (v := codeAt z n) (n := (z.getD n 0).toNat) (L := L) (by omega) (by omega) (by omega)
  rw [show (((z.getD n 0).toNat : Nat) : Int) = z.getD n 0 by omega] at this
  exact this
def pcBits (z1 z2 : List Int) (p : Pc) : List Bool := (if 0 ≤ p.f then symBits z1 p.f.toNat else []) ++ ((if 0 ≤ p.s then symBits z2 p.s.toNat else []) ++ p.bits)
theorem pcBits_le {z1 z2 : List Int} (m1 : may z1 = true) (m2 : may z2 = true) (p : Pc) : (pcBits z1 z2 p).length ≤ 30 + p.bits.length := by
  have h1 := symBits_le m1 p.f.toNat
  have h2 := symBits_le m2 p.s.toNat
  unfold pcBits
  simp only [List.length_append]
  split <;> split <;> simp <;> omega
theorem text_loop {k N : Nat} {l0 l1 l2 l3 l4 : Sl} {ps : List Pc} {z1 z2 : List Int} {Fp A1 A2 A3 A4 : List Nat} (m1 : may z1 = true) (m2 : may z2 = true) (n1 : z1.length = 277) (n2 : z2.length = 9) (hs : ps.length < 2 ^ 22)
    (hf : ∀ p ∈ ps, p.f < 277 ∧ p.s < 9 ∧ p.bits.length ≤ 16) (hN : (∀ i ∈ Fp, i < N) ∧ (∀ i ∈ A1, i < N) ∧ (∀ i ∈ A2, i < N) ∧ (∀ i ∈ A3, i < N) ∧ (∀ i ∈ A4, i < N)) (hk : 60 ≤ k) :
    ∀ (q i j : Nat) (l5 : Sl) (bs : List Bool) (F : List Nat) (L : LHeap), i + q = ps.length → q < j → OZ L l0 (ps.flatMap pcL) 48 3 Fp → Rd L l1 (z1.map iV) A1 → Rd L l2 (z2.map iV) A2 → Rd L l3 ((codesOf z1).map uV) A3 → Rd L l4 ((codesOf z2).map uV) A4 →
      OS L l5 ((tx bs).map bV) 5 F → (∀ i ∈ F, N ≤ i) → N ≤ L.length → bs.length ≤ 50 * i →
    ∃ l' L' F', f15_l23 k j l0 l1 l2 l3 l4 l5 (i : Int) L = f15_l23 k (j - q) l0 l1 l2 l3 l4 l' (ps.length : Int) L' ∧ OS L' l' ((tx (bs ++ (ps.drop i).flatMap (pcBits z1 z2))).map bV) 5 F' ∧ Step F L F' L' ∧ ∀ i ∈ F', N ≤ i := by
  intro q
  induction q with
  | zero =>
    intro i j l5 bs F L hi hj hO h1 h2 h3 h4 h5 hF hNL hb
    rw [List.drop_of_length_le (by omega)]
    exact ⟨l5, L, F, by rw [Nat.sub_zero, show i = ps.length by omega], by simpa using h5, .refl _ _, hF⟩
  | succ q ih =>
    intro i j l5 bs F L hi hj hO h1 h2 h3 h4 h5 hF hNL hb
    obtain ⟨j, rfl⟩ : ∃ j', j = j' + 1 := ⟨j - 1, by omega⟩
    have hi2 : i < ps.length := by omega
    have hn : l0.n = ps.length := by have := hO.1; rw [pcs_len] at this; omega
    obtain ⟨a, a1, a2⟩ := pc_here hO (List.getElem?_eq_getElem hi2)
    obtain ⟨hpf, hps, hpb⟩ := hf _ (List.getElem_mem hi2)
    have hdr : ps.drop i = ps[i] :: ps.drop (i + 1) := List.drop_eq_getElem_cons hi2
    generalize ps[i] = p at *
    obtain ⟨hN0, hN1, hN2, hN3, hN4⟩ := hN
    have hpcl := pcBits_le m1 m2 p
    -- whatever is kept below N
    have keep : ∀ {M : LHeap} {F' : List Nat}, Step F L F' M → ∀ x, x < N → M[x]? = L[x]? := fun {M F'} st x hx => st.keep x (by omega) fun hxF => by have := hF x hxF; omega
    have fin : ∀ (M : LHeap) (s' : Sl) (F' : List Nat), OS M s' ((tx (bs ++ pcBits z1 z2 p)).map bV) 5 F' → Step F L F' M →
        ∃ l' L' F', f15_l23 k j l0 l1 l2 l3 l4 s' (IntKind.wrap .i64 ((i : Int) + 1)) M = f15_l23 k (j + 1 - (q + 1)) l0 l1 l2 l3 l4 l' (ps.length : Int) L' ∧ OS L' l' ((tx (bs ++ (ps.drop i).flatMap (pcBits z1 z2))).map bV) 5 F' ∧ Step F L F' L' ∧ ∀ i ∈ F', N ≤ i := by
      intro M s' F' hM st
      rw [wI64 (by omega) (by omega), show (i : Int) + 1 = ((i + 1 : Nat) : Int) by omega]
      have kp := keep st
      obtain ⟨l', L', F'', x1, x2, x3, x4⟩ := ih (i + 1) j s' (bs ++ pcBits z1 z2 p) F' M (by omega) (by omega) (hO.mono fun x hx => kp x (hN0 x hx)) (h1.mono fun x hx => kp x (hN1 x hx)) (h2.mono fun x hx => kp x (hN2 x hx)) (h3.mono fun x hx => kp x (hN3 x hx)) (h4.mono fun x hx => kp x (hN4 x hx)) hM
        (fun x hx => by rcases st.foot x hx with h | h; exact hF x h; omega) (Nat.le_trans hNL st.len) (by rw [List.length_append]; omega)
      refine ⟨l', L', F'', by rw [x1, show j + 1 - (q + 1) = j - q by omega], ?_, st.trans x3, x4⟩
      rw [hdr, List.flatMap_cons, ← List.append_assoc]
      exact x2
    obtain ⟨d0, d1, d2⟩ := a2 L fun _ _ => rfl
    rw [f15_l23_eq, size5, bytes5, decide_eq_true (by omega), lif_true, a1, obind_some, d0, Option.bind_some, asI_int, obind_some]
    -- the last part: the bits
    have bitsPart : ∀ (M : LHeap) (s' : Sl) (F' : List Nat) (cs : List Bool), OS M s' ((tx (bs ++ cs)).map bV) 5 F' → Step F L F' M → cs ++ p.bits = pcBits z1 z2 p → ∃ x F'', cell M (a.add 2) = some (.string (txt p.bits)) ∧ app M 5 1 1 s' (txt p.bits).size (byteCells ((txt p.bits).extract 0 (txt p.bits).size)) = some x ∧
        OS x.2 x.1 ((tx (bs ++ pcBits z1 z2 p)).map bV) 5 F'' ∧ Step F L F'' x.2 := by
      intro M s' F' cs hM st hcs
      obtain ⟨e0, e1, e2⟩ := a2 M fun x hx => keep st x (hN0 x hx)
      have hle : cs.length ≤ 50 := by have := congrArg List.length hcs; rw [List.length_append] at this; omega
      obtain ⟨x, F'', x1, x2, x3⟩ := text_app hM p.bits (by rw [List.length_append]; omega)
      refine ⟨x, F'', e2, x1, ?_, st.trans x3⟩
      rw [List.append_assoc, hcs] at x2
      exact x2
    by_cases hpf0 : 0 ≤ p.f
    · obtain ⟨fn, hfn⟩ : ∃ fn : Nat, p.f = (fn : Int) := ⟨p.f.toNat, by omega⟩
      obtain ⟨u, v, u1, u2, v1, v2, w⟩ := sym_read (k := k) (n := fn) m1 h1 h3 (by omega) (by omega)
      obtain ⟨x, F1, x1, x2, x3⟩ := text_app h5 (symBits z1 fn) (by have := symBits_le m1 fn; omega)
      rw [decide_eq_true (show p.f ≥ 0 from hpf0), lif_true]
      simp only [obind_some, d0, Option.bind_some, asI_int, hfn, u1, u2, v1, v2, w, lbindR_ret, asS_string, x1]
      obtain ⟨e0, e1, e2⟩ := a2 x.2 fun y hy => keep x3 y (hN0 y hy)
      rw [e1, Option.bind_some, asI_int, obind_some]
      by_cases hps0 : 0 ≤ p.s
      · obtain ⟨sn, hsn⟩ : ∃ sn : Nat, p.s = (sn : Int) := ⟨p.s.toNat, by omega⟩
        obtain ⟨u', v', u1', u2', v1', v2', w'⟩ := sym_read (k := k) (n := sn) m2 (h2.mono fun y hy => keep x3 y (hN2 y hy)) (h4.mono fun y hy => keep x3 y (hN4 y hy)) (by omega) (by omega)
        obtain ⟨y, F2, y1, y2, y3⟩ := text_app x2 (symBits z2 sn) (by have := symBits_le m1 fn; have := symBits_le m2 sn; rw [List.length_append]; omega)
        rw [decide_eq_true (show p.s ≥ 0 from hps0), lif_true]
        simp only [obind_some, e1, Option.bind_some, asI_int, hsn, u1', u2', v1', v2', w', lbindR_ret, asS_string, y1]
        rw [List.append_assoc] at y2
        obtain ⟨g, F3, g0, g1, g2, g3⟩ := bitsPart y.2 y.1 F2 (symBits z1 fn ++ symBits z2 sn) y2 (x3.trans y3) (by unfold pcBits; rw [if_pos hpf0, if_pos hps0, hfn, hsn]; simp)
        simp only [obind_some, g0, Option.bind_some, asS_string, g1]
        exact fin g.2 g.1 F3 g2 g3
      · rw [decide_eq_false (show ¬ p.s ≥ 0 from hps0), lif_false]
        obtain ⟨g, F3, g0, g1, g2, g3⟩ := bitsPart x.2 x.1 F1 (symBits z1 fn) x2 x3 (by unfold pcBits; rw [if_pos hpf0, if_neg hps0, hfn]; simp)
        simp only [obind_some, g0, Option.bind_some, asS_string, g1]
        exact fin g.2 g.1 F3 g2 g3
    · rw [decide_eq_false (show ¬ p.f ≥ 0 from hpf0), lif_false]
      simp only [obind_some]
      rw [d1, Option.bind_some, asI_int, obind_some]
      by_cases hps0 : 0 ≤ p.s
      · obtain ⟨sn, hsn⟩ : ∃ sn : Nat, p.s = (sn : Int) := ⟨p.s.toNat, by omega⟩
        obtain ⟨u', v', u1', u2', v1', v2', w'⟩ := sym_read (k := k) (n := sn) m2 h2 h4 (by omega) (by omega)
        obtain ⟨y, F2, y1, y2, y3⟩ := text_app h5 (symBits z2 sn) (by have := symBits_le m2 sn; omega)
        rw [decide_eq_true (show p.s ≥ 0 from hps0), lif_true]
        simp only [obind_some, d1, Option.bind_some, asI_int, hsn, u1', u2', v1', v2', w', lbindR_ret, asS_string, y1]
        obtain ⟨g, F3, g0, g1, g2, g3⟩ := bitsPart y.2 y.1 F2 (symBits z2 sn) y2 y3 (by unfold pcBits; rw [if_neg hpf0, if_pos hps0, hsn]; simp)
        simp only [obind_some, g0, Option.bind_some, asS_string, g1]
        exact fin g.2 g.1 F3 g2 g3
      · rw [decide_eq_false (show ¬ p.s ≥ 0 from hps0), lif_false]
        obtain ⟨g, F3, g0, g1, g2, g3⟩ := bitsPart L l5 F [] (by simpa using h5) (.refl _ _) (by unfold pcBits; rw [if_neg hpf0, if_neg hps0]; rfl)
        simp only [obind_some, g0, Option.bind_some, asS_string, g1]
        exact fin g.2 g.1 F3 g2 g3
theorem pieces_bits {z1 z2 : List Int} {t : Tok} (hsh : tokShape t = true) (hw : t.wf) : (pieces t).flatMap (pcBits z1 z2) = tokBits z1 z2 t := by
  obtain ⟨_, hb⟩ := hw
  unfold pieces tokBits sym1 sym2
  rcases tokShape_cases hsh with ⟨k1, q1, q2, q3⟩ | ⟨k1, q1, q2, q3, q4, q5, q6⟩ | ⟨k1, q1, q2, q3, q4, q5, q6⟩
  · simp only [k1, if_true, show ¬ ((1 : Int) = 2) by decide, if_false]
    unfold pcBits
    simp only [List.flatMap_cons, List.flatMap_nil]
    rw [if_pos hb.1, if_neg (by decide)]
    simp
  · simp only [k1, if_true, show ¬ ((2 : Int) = 1) by decide, if_false]
    unfold pcBits
    simp only [List.flatMap_cons, List.flatMap_nil]
    rw [if_pos (show (0 : Int) ≤ 260 + ((nlen t.d.toNat : Nat) : Int) by omega), if_neg (show ¬ (0 : Int) ≤ -1 by decide), if_pos (show (0 : Int) ≤ ((nlen (t.l - 3).toNat : Nat) : Int) by omega)]
    rw [show ((260 : Int) + ((nlen t.d.toNat : Nat) : Int)).toNat = 260 + nlen t.d.toNat by omega, Int.toNat_natCast]
    simp
  · simp only [k1, show ¬ ((3 : Int) = 1) by decide, show ¬ ((3 : Int) = 2) by decide, if_false]
    unfold pcBits
    simp only [List.flatMap_cons, List.flatMap_nil]
    rw [if_pos (show (0 : Int) ≤ 257 + t.s by omega), if_neg (show ¬ (0 : Int) ≤ -1 by decide), if_pos (show (0 : Int) ≤ ((nlen (t.l - 3).toNat : Nat) : Int) by omega)]
    rw [show ((257 : Int) + t.s).toNat = 257 + t.s.toNat by omega, Int.toNat_natCast]
    simp
theorem allPc_bits {z1 z2 : List Int} {ts : List Tok} (hs : ∀ t ∈ ts, tokShape t = true) (hw : ∀ t ∈ ts, t.wf) : (allPc ts).flatMap (pcBits z1 z2) = packBits z1 z2 ts := by
  unfold allPc packBits
  rw [List.flatMap_append]
  congr 1
  · induction ts with
    | nil => rfl
    | cons t ts ih =>
      rw [List.flatMap_cons, List.flatMap_append, List.flatMap_cons, pieces_bits (hs t (by simp)) (hw t (by simp)), ih (fun u hu => hs u (by simp [hu])) (fun u hu => hw u (by simp [hu]))]
  · unfold pcBits
    simp
theorem pieces_bl {t : Tok} (hsh : tokShape t = true) : ∀ p ∈ pieces t, p.bits.length ≤ 16 := by
  intro p hp
  unfold pieces at hp
  rcases tokShape_cases hsh with ⟨k1, q1, q2, q3⟩ | ⟨k1, q1, q2, q3, q4, q5, q6⟩ | ⟨k1, q1, q2, q3, q4, q5, q6⟩
  · rw [if_pos k1] at hp
    rw [List.mem_singleton.1 hp]; simp
  · have hb1 : nlen t.d.toNat ≤ 16 := nlen_le (by omega)
    have hb2 : nlen (t.l - 3).toNat ≤ 8 := nlen_le (by omega)
    rw [if_neg (by omega), if_pos k1] at hp
    simp only [List.mem_cons, List.mem_nil_iff, or_false] at hp
    rcases hp with rfl | rfl <;> · simp only [numBits_length]; omega
  · have hb2 : nlen (t.l - 3).toNat ≤ 8 := nlen_le (by omega)
    rw [if_neg (by omega), if_neg (by omega)] at hp
    simp only [List.mem_cons, List.mem_nil_iff, or_false] at hp
    rcases hp with rfl | rfl
    · simp
    · simp only [numBits_length]; omega
theorem allPc_ok {ts : List Tok} (hs : ∀ t ∈ ts, tokShape t = true) (hw : ∀ t ∈ ts, t.wf) : ∀ p ∈ allPc ts, p.f < 277 ∧ p.s < 9 ∧ p.bits.length ≤ 16 := by
  intro p hp
  obtain ⟨h1, h2⟩ := allPc_lt hs hw p hp
  refine ⟨h1, h2, ?_⟩
  unfold allPc at hp
  rcases List.mem_append.1 hp with hp | hp
  · obtain ⟨t, ht, hp⟩ := List.mem_flatMap.1 hp
    exact pieces_bl (hs t ht) p hp
  · rw [List.mem_singleton.1 hp]; simp
/-- **The reference's Pack.** -/
theorem rpack_ok {k : Nat} {l : Sl} {ts : List Tok} {A : List Nat} {L : LHeap} (hl : RT L l ts A) (hf : Fit ts) (hk : 60 * ts.length + 3000 ≤ k) :
    ∃ L', f15 k l L = some (.ret (.tuple #[.string (packStr ts), .int .i64 (packErr ts)]) L') ∧ Step [] L [] L' := by
  obtain ⟨k, rfl⟩ : ∃ k', k = k' + 1 := ⟨k - 1, by omega⟩
  obtain ⟨hlen, hw⟩ := hf
  have hn := hl.len
  obtain ⟨r1, r2⟩ := rall_loop (k := k) (l := l) hw hlen (by omega) ts.length 0 k ⟨none, 0, 0⟩ [] [] L (by omega) (by omega) hl (fun i hi => by cases hi) (OZ.nil _ _ (by omega)) (by simp)
  rw [List.drop_zero] at r1 r2
  rw [f15_eq]
  by_cases hs : ∀ t ∈ ts, tokShape t = true
  case neg =>
    obtain ⟨L', x1, x2⟩ := r2 hs
    have x1' : f15_l3 k k l ⟨none, 0, 0⟩ 0 L = some (.ret (.tuple #[.string ⟨#[]⟩, .int .i64 4]) L') := x1
    rw [x1', (packStr_bad hs).1, (packStr_bad hs).2]
    exact ⟨L', rfl, x2⟩
  obtain ⟨l1, L1, F1, x1, x2, x3⟩ := r1 hs
  have x1' : f15_l3 k k l ⟨none, 0, 0⟩ 0 L = f15_l3 k (k - ts.length) l l1 (ts.length : Int) L1 := x1
  rw [x1', (packStr_ok hs).1, (packStr_ok hs).2]
  obtain ⟨j, hj⟩ : ∃ j, k - ts.length = j + 1 := ⟨k - ts.length - 1, by omega⟩
  rw [hj, f15_l3_eq, decide_eq_false (by omega), lif_false, size48, bytes48, src_row (q := 1) (z := 3) (by rfl) (by omega), obind_some]
  rw [List.nil_append] at x2
  have hpl := allPc_len ts
  have hpl2 : (ts.flatMap pieces).length + 1 = (allPc ts).length := by unfold allPc; simp
  have x2' : OZ (L1 ++ [LBlk.cells [Value.int IntKind.i64 256, Value.int IntKind.i64 (-1), Value.string (ByteArray.mk #[])] 48 false 0]) l1 ((ts.flatMap pieces).flatMap pcL) 48 3 F1 := x2.mono fun i hi => get_push (x2.within i hi)
  have st1 : Step [] L F1 (L1 ++ [LBlk.cells [Value.int IntKind.i64 256, Value.int IntKind.i64 (-1), Value.string (ByteArray.mk #[])] 48 false 0]) := x3.trans (.push _ _ _)
  generalize L1 ++ [LBlk.cells [Value.int IntKind.i64 256, Value.int IntKind.i64 (-1), Value.string (ByteArray.mk #[])] 48 false 0] = L2 at *
  have hn1 : l1.n = (ts.flatMap pieces).length := by have := x2'.1; rw [pcs_len] at this; omega
  obtain ⟨l2, L3, F3, p1, p2, p3, p4⟩ := x2'.app [Value.int IntKind.i64 256, Value.int IntKind.i64 (-1), Value.string (ByteArray.mk #[])] 1 32 (by omega) (by rfl) (by omega) (by omega)
  rw [p1, obind_some]
  have hall : (ts.flatMap pieces).flatMap pcL ++ [Value.int IntKind.i64 256, Value.int IntKind.i64 (-1), Value.string (ByteArray.mk #[])] = (allPc ts).flatMap pcL := by
    unfold allPc
    rw [List.flatMap_append]
    rfl
  rw [hall] at p2
  have st2 := st1.trans p4
  simp only
  -- the counts
  have w1 : WS (L3 ++ [LBlk.cells (List.flatten (List.replicate 277 [Value.int IntKind.i64 0])) 3 false 0]) ⟨some ⟨L3.length, 0, none⟩, 277, 277⟩ ((List.replicate 277 (0 : Int)).map iV) 3 [L3.length] := by
    rw [List.map_replicate]; exact WS.made
  have p2a : OZ (L3 ++ [LBlk.cells (List.flatten (List.replicate 277 [Value.int IntKind.i64 0])) 3 false 0]) l2 ((allPc ts).flatMap pcL) 48 3 F3 := p2.mono fun i hi => get_push (p2.within i hi)
  have st3 : Step [] L (L3.length :: F3) (L3 ++ [LBlk.cells (List.flatten (List.replicate 277 [Value.int IntKind.i64 0])) 3 false 0]) := st2.trans (.new _ _ _)
  have hF3 := p2.within
  have hlt4 : L3.length < (L3 ++ [LBlk.cells (List.flatten (List.replicate 277 [Value.int IntKind.i64 0])) 3 false 0]).length := by simp
  generalize hL3 : L3.length = n3 at *
  generalize L3 ++ [LBlk.cells (List.flatten (List.replicate 277 [Value.int IntKind.i64 0])) 3 false 0] = L4 at *
  have w2 : WS (L4 ++ [LBlk.cells [Value.int IntKind.i64 0, Value.int IntKind.i64 0, Value.int IntKind.i64 0, Value.int IntKind.i64 0, Value.int IntKind.i64 0, Value.int IntKind.i64 0, Value.int IntKind.i64 0, Value.int IntKind.i64 0, Value.int IntKind.i64 0] 3 false 0]) ⟨some ⟨L4.length, 0, none⟩, 9, 9⟩ ((List.replicate 9 (0 : Int)).map iV) 3 [L4.length] := WS.lit rfl
  have w1a := w1.mono (L' := L4 ++ [LBlk.cells [Value.int IntKind.i64 0, Value.int IntKind.i64 0, Value.int IntKind.i64 0, Value.int IntKind.i64 0, Value.int IntKind.i64 0, Value.int IntKind.i64 0, Value.int IntKind.i64 0, Value.int IntKind.i64 0, Value.int IntKind.i64 0] 3 false 0]) fun i hi => get_push (w1.within i hi)
  have p2b := p2a.mono (L' := L4 ++ [LBlk.cells [Value.int IntKind.i64 0, Value.int IntKind.i64 0, Value.int IntKind.i64 0, Value.int IntKind.i64 0, Value.int IntKind.i64 0, Value.int IntKind.i64 0, Value.int IntKind.i64 0, Value.int IntKind.i64 0, Value.int IntKind.i64 0] 3 false 0]) fun i hi => get_push (p2a.within i hi)
  have st4 : Step [] L (L4.length :: n3 :: F3) (L4 ++ [LBlk.cells [Value.int IntKind.i64 0, Value.int IntKind.i64 0, Value.int IntKind.i64 0, Value.int IntKind.i64 0, Value.int IntKind.i64 0, Value.int IntKind.i64 0, Value.int IntKind.i64 0, Value.int IntKind.i64 0, Value.int IntKind.i64 0] 3 false 0]) := st3.trans (.new _ _ _)
  have hF4 := p2a.within
  generalize hL4 : L4.length = n4 at *
  generalize L4 ++ [LBlk.cells [Value.int IntKind.i64 0, Value.int IntKind.i64 0, Value.int IntKind.i64 0, Value.int IntKind.i64 0, Value.int IntKind.i64 0, Value.int IntKind.i64 0, Value.int IntKind.i64 0, Value.int IntKind.i64 0, Value.int IntKind.i64 0] 3 false 0] = L5 at *
  have hwz : ∀ (n : Nat) (x : Int), x ∈ List.replicate n (0 : Int) → 0 ≤ x ∧ x ≤ ((0 : Nat) : Int) := fun n x hx => by rw [List.eq_of_mem_replicate hx]; omega
  obtain ⟨L6, y1, y2, y3, y4, y5⟩ := rcount_loop (k := k) (l0 := l2) (l1 := ⟨some ⟨n3, 0, none⟩, 277, 277⟩) (l2 := ⟨some ⟨n4, 0, none⟩, 9, 9⟩) (ps := allPc ts) (Fp := F3) (F1 := [n3]) (F2 := [n4]) (by omega) (allPc_lt hs hw)
    (fun i hi h => by simp at hi h; omega) (fun i hi h => by simp at hi; have := hF3 i h; omega) (fun i hi h => by simp at hi; have := hF4 i h; omega)
    (allPc ts).length 0 k _ _ L5 (by omega) (by omega) p2b w1a w2 (by simp) (by simp) (hwz 277) (hwz 9)
  have y1' : f15_l11 k k l2 ⟨some ⟨n3, 0, none⟩, 277, 277⟩ ⟨some ⟨n4, 0, none⟩, 9, 9⟩ 0 L5 = f15_l11 k (k - (allPc ts).length) l2 ⟨some ⟨n3, 0, none⟩, 277, 277⟩ ⟨some ⟨n4, 0, none⟩, 9, 9⟩ ((allPc ts).length : Int) L6 := y1
  rw [y1']
  rw [List.drop_zero, count1 hs hw] at y3
  rw [List.drop_zero, count2 hs hw] at y4
  have hn2 : l2.n = (allPc ts).length := by have := y2.1; rw [pcs_len] at this; omega
  obtain ⟨j2, hj2⟩ : ∃ j, k - (allPc ts).length = j + 1 := ⟨k - (allPc ts).length - 1, by omega⟩
  rw [hj2, f15_l11_eq, decide_eq_false (by omega), lif_false]
  have st6 : Step [] L [] L6 := (st4.trans (y5.mono (G := n4 :: n3 :: F3) fun i hi => by simp at hi ⊢; omega)).less fun i hi => by cases hi
  -- lengths, codes
  obtain ⟨s1, L7, G1, a1, a2, a3⟩ := lengthsR_ok (k := k) y3.rd (by simp) (by simp; omega)
  have e1 : lenRes (freq1 ts) = lens1 ts := by
    unfold lenRes
    rw [show lenOk (freq1 ts) = true by
      simp only [lenOk, Bool.and_eq_true, decide_eq_true_eq, Bool.not_eq_true', List.any_eq_false]
      refine ⟨by simp, fun f hff => ?_⟩
      have := freq1_ok hlen f hff
      simp [bad]; omega]
    rfl
  have e2 : lenRes (freq2 ts) = lens2 ts := by
    unfold lenRes
    rw [show lenOk (freq2 ts) = true by
      simp only [lenOk, Bool.and_eq_true, decide_eq_true_eq, Bool.not_eq_true', List.any_eq_false]
      refine ⟨by simp, fun f hff => ?_⟩
      have := freq2_ok hlen f hff
      simp [bad]; omega]
    rfl
  rw [e1] at a2
  rw [a1, lbind_ret, tupL_tuple, obind_some, uncons_cons, asSl_slice, obind_some, uncons_cons, asB_bool, obind_some, uncons_cons, asI_int, obind_some, nilL_nil]
  have y4a := y4.mono (a3.others y4.within fun i hi => by cases hi)
  have y2a := y2.mono (a3.others y2.within fun i hi => by cases hi)
  obtain ⟨s2, L8, G2, b1, b2, b3⟩ := lengthsR_ok (k := k) y4a.rd (by simp) (by simp; omega)
  rw [e2] at b2
  rw [b1, lbind_ret, tupL_tuple, obind_some, uncons_cons, asSl_slice, obind_some, uncons_cons, asB_bool, obind_some, uncons_cons, asI_int, obind_some, nilL_nil]
  have a2b := a2.mono (b3.others a2.within fun i hi => by cases hi)
  have y2b := y2a.mono (b3.others y2a.within fun i hi => by cases hi)
  have hm1 := may1 hlen
  have hm2 := may2 hlen
  obtain ⟨s3, L9, G3, c1, c2, c3⟩ := rcodes_ok (k := k) a2b.rd (by simp) (by simp; omega)
  have ec1 : codesRes (lens1 ts) = codesOf (lens1 ts) := by unfold codesRes; rw [hm1]; rfl
  have ec2 : codesRes (lens2 ts) = codesOf (lens2 ts) := by unfold codesRes; rw [hm2]; rfl
  rw [ec1] at c2
  rw [c1, lbind_ret, tupL_tuple, obind_some, uncons_cons, asSl_slice, obind_some, uncons_cons, asI_int, obind_some, nilL_nil]
  have a2c := a2b.mono (c3.others a2b.within fun i hi => by cases hi)
  have b2c := b2.mono (c3.others b2.within fun i hi => by cases hi)
  have y2c := y2b.mono (c3.others y2b.within fun i hi => by cases hi)
  obtain ⟨s4, L10, G4, d1, d2, d3⟩ := rcodes_ok (k := k) b2c.rd (by simp) (by simp; omega)
  rw [ec2] at d2
  rw [d1, lbind_ret, tupL_tuple, obind_some, uncons_cons, asSl_slice, obind_some, uncons_cons, asI_int, obind_some, nilL_nil]
  have a2d := a2c.mono (d3.others a2c.within fun i hi => by cases hi)
  have b2d := b2c.mono (d3.others b2c.within fun i hi => by cases hi)
  have c2d := c2.mono (d3.others c2.within fun i hi => by cases hi)
  have y2d := y2c.mono (d3.others y2c.within fun i hi => by cases hi)
  have st10 : Step [] L [] L10 := (((st6.trans (a3.less fun i hi => by cases hi)).trans (b3.less fun i hi => by cases hi)).trans (c3.less fun i hi => by cases hi)).trans (d3.less fun i hi => by cases hi)
  -- the text
  obtain ⟨l', L11, F11, t1, t2, t3, t4⟩ := text_loop (k := k) (N := L10.length) (l0 := l2) (l1 := s1) (l2 := s2) (l3 := s3) (l4 := s4) (ps := allPc ts) (z1 := lens1 ts) (z2 := lens2 ts) (Fp := F3) (A1 := G1) (A2 := G2) (A3 := G3) (A4 := G4) hm1 hm2 (by simp) (by simp) (by omega)
    (allPc_ok hs hw) ⟨y2d.within, a2d.within, b2d.within, c2d.within, d2.within⟩ (by omega) (allPc ts).length 0 k ⟨none, 0, 0⟩ [] [] L10 (by omega) (by omega) y2d a2d.rd b2d.rd c2d.rd d2.rd (OS.nil _ _) (fun i hi => by cases hi) (Nat.le_refl _) (by simp)
  have t1' : f15_l23 k k l2 s1 s2 s3 s4 ⟨none, 0, 0⟩ 0 L10 = f15_l23 k (k - (allPc ts).length) l2 s1 s2 s3 s4 l' ((allPc ts).length : Int) L11 := t1
  rw [t1']
  rw [List.drop_zero, List.nil_append, allPc_bits hs hw] at t2
  rw [hj2, f15_l23_eq, decide_eq_false (by omega), lif_false]
  have a2e := a2d.mono (t3.others a2d.within fun i hi => by cases hi)
  have b2e := b2d.mono (t3.others b2d.within fun i hi => by cases hi)
  obtain ⟨L12, u1, u2⟩ := rmake_ok (k := k) a2e.rd (fun z hz => okLen_mem (may_ok hm1).1 hz) (by simp) (by simp; omega)
  rw [u1, lbind_ret, tupL_tuple, obind_some, uncons_cons, asS_string, obind_some, uncons_cons, asI_int, obind_some, nilL_nil]
  have b2f := b2e.mono (u2.others b2e.within fun i hi => by cases hi)
  have t2f := t2.mono (u2.others t2.within fun i hi => by cases hi)
  obtain ⟨L13, v1, v2⟩ := rmake_ok (k := k) b2f.rd (fun z hz => okLen_mem (may_ok hm2).1 hz) (by simp) (by simp; omega)
  rw [v1, lbind_ret, tupL_tuple, obind_some, uncons_cons, asS_string, obind_some, uncons_cons, asI_int, obind_some, nilL_nil]
  have t2g := t2f.mono (v2.others t2f.within fun i hi => by cases hi)
  have q1 := tabBytes_len_le (lens1 ts)
  have q2 := tabBytes_len_le (lens2 ts)
  rw [lens1_length] at q1
  rw [lens2_length] at q2
  have hbl := packBits_le hm1 hm2 ts hs
  rw [decide_eq_true (by rw [strOf_size, strOf_size]; unfold maxI; omega), when_true, OS.bytes t2g (tx_small _), obind_some, tx_str]
  obtain ⟨L14, z1, z2⟩ := rbytes_ok (k := k) (bs := packBits (lens1 ts) (lens2 ts) ts) (L := L13) (by omega) (by omega)
  rw [z1, lbind_ret, asS_string, obind_some]
  have hfin : strOf (tabBytes (lens1 ts)) ++ strOf (tabBytes (lens2 ts)) ++ strOf (packOf (packBits (lens1 ts) (lens2 ts) ts)) = strOf (packB ts) := by
    rw [strOf_app, strOf_app, packB, List.append_assoc]
  rw [hfin, decide_eq_true (by rw [strOf_app, strOf_size, strOf_size, packOf_length, List.length_append]; unfold maxI; omega), when_true]
  exact ⟨L14, rfl, ((((st10.trans t3).less fun i hi => by cases hi).trans u2).trans v2).trans z2⟩
end Go.Proofs.Ytflhogapjmdkaaa.X
end

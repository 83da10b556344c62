/- The logical machine, its likeness to the model, and the contracts of the functions that the law calls. Printed by pack.py, a program of this work, out of its texts; what the law does not use is left out. -/
import Derived.Test.YtflhogapjmdkaaaBlockUnpacksM4
section
set_option maxRecDepth 100000
set_option linter.unusedVariables false
namespace Go.Proofs.Ytflhogapjmdkaaa.X
open Go Go.Rlm
theorem specOk : SpecOk Proofs.Try.prog T := by
  have key : ∀ f g, T.spec f = some g → f = 25 ∧ g = caughtSpec := by
    intro f g h
    have h : (bif Nat.beq 25 f then some caughtSpec else none) = some g := h
    cases hb : Nat.beq 25 f with
    | true => rw [hb] at h; injection h with h; exact ⟨(Nat.eq_of_beq_eq_true hb).symm, h.symm⟩
    | false => rw [hb] at h; cases h
  constructor
  · intro f g h _
    obtain ⟨rfl, rfl⟩ := key f g h
    exact ⟨_, _, func25, body25⟩
  · intro f g h call hc args L r hr m w args' h1 h2
    obtain ⟨rfl, rfl⟩ := key f g h
    exact caught_ok hc hr h1 h2
theorem f25_eq (k : Nat) (fv : Value) (L : LHeap) : f25 (k + 1) fv L = caughtSpec (lcall Proofs.Try.prog T k) [fv] L := by kernel_rfl
theorem caught_ret {k : Nat} {fv v : Value} {L L2 : LHeap} (h : lappF (lcall Proofs.Try.prog T k) fv [] (L ++ [.cells [.int .i64 0] 24 false 0]) = some (.ret v L2)) (hb : L2[L.length]? = some (.cells [.int .i64 0] 24 false 0)) :
    f25 (k + 1) fv L = some (.ret (.int .i64 0) (L2.set L.length (.cells [.int .i64 0] 24 false 0))) := by
  rw [f25_eq]
  unfold caughtSpec
  simp only [h]
  rw [stores_of hb (by simp)]
  rfl
theorem caught_pan {k : Nat} {fv : Value} {n : Int} {L L2 : LHeap} (h : lappF (lcall Proofs.Try.prog T k) fv [] (L ++ [.cells [.int .i64 0] 24 false 0]) = some (.pan (.iface 24 (.int .i64 n)) L2)) (hb : L2[L.length]? = some (.cells [.int .i64 0] 24 false 0)) :
    f25 (k + 1) fv L = some (.ret (.int .i64 n) (L2.set L.length (.cells [.int .i64 n] 24 false 0))) := by
  rw [f25_eq]
  unfold caughtSpec
  simp only [h]
  rw [stores_of hb (by simp)]
  rfl
theorem putAll_loop {k r w b1 b2 : Nat} {s1 s3 : ByteArray} {l : Sl} {ts : List Tok} {z1 z2 : List Int} {A F1 F2 : List Nat}
    (ht : ∀ t ∈ ts, tokShape t = true ∧ t.wf ∧ 0 < z1.getD (sym1 t) 0 ∧ (t.k ≠ 1 → 0 < z2.getD (sym2 t) 0)) (m1 : may z1 = true) (m2 : may z2 = true) (hs : ts.length ≤ 1048576) (hk : 90 ≤ k) :
    ∀ (q i j : Nat) (bs : List Bool) (G : List Nat) (L : LHeap), i + q = ts.length → q < j → RT L l ts A → Apart G A → PS L r w b1 b2 z1 z2 bs G F1 F2 → bs.length + 52 * q < 2 ^ 37 →
    ∃ L' G', Step G L G' L' ∧ PS L' r w b1 b2 z1 z2 (bs ++ (ts.drop i).flatMap (tokBits z1 z2)) G' F1 F2 ∧
      f27_l16 k j (some ⟨b1, 0, none⟩) s1 (some ⟨b2, 0, none⟩) s3 r r r l (l.n : Int) (i : Int) L = f27_l16 k (j - q) (some ⟨b1, 0, none⟩) s1 (some ⟨b2, 0, none⟩) s3 r r r l (l.n : Int) (ts.length : Int) L' := by
  intro q
  induction q with
  | zero =>
    intro i j bs G L hi hj hl hA h hb
    rw [List.drop_of_length_le (by omega)]
    exact ⟨L, G, .refl _ _, by simpa using h, by rw [Nat.sub_zero, show i = ts.length by omega]⟩
  | succ q ih =>
    intro i j bs G L hi hj hl hA h hb
    obtain ⟨j, rfl⟩ : ∃ j', j = j' + 1 := ⟨j - 1, by omega⟩
    obtain ⟨kk, rfl⟩ : ∃ k', k = k' + 1 := ⟨k - 1, by omega⟩
    have hi2 : i < ts.length := by omega
    have hn := hl.len
    obtain ⟨a, a1, a2⟩ := hl.here (List.getElem?_eq_getElem hi2)
    obtain ⟨d0, d1, d2, d3, d4⟩ := a2 L fun _ _ => rfl
    have htm : ts[i] ∈ ts := List.getElem_mem hi2
    have hdr : ts.drop i = ts[i] :: ts.drop (i + 1) := List.drop_eq_getElem_cons hi2
    generalize hti : ts[i] = t at *
    obtain ⟨hsh, hw, p1, p2⟩ := ht t htm
    rw [f27_l16_eq, decide_eq_true (by omega), lif_true, a1]
    simp only [obind_some, d0, d1, d2, d3, d4, Option.bind_some, asI_int]
    rw [stores_new (by rfl)]
    simp only [obind_some]
    have hx : L ++ [LBlk.cells [Value.int .u8 t.k, Value.int .u8 t.b, Value.int .i64 t.l, Value.int .i64 t.d, Value.int .i64 t.s] 29 false 0] = L ++ [LBlk.cells (tokL t) 29 false 0] := rfl
    rw [hx]
    have g0 : (L ++ [LBlk.cells (tokL t) 29 false 0])[L.length]? = some (.cells (tokL t) 29 false 0) := get_new
    obtain ⟨e0, e1, e2, e3, e4⟩ := tok_cell g0
    have hlen0 : L.length < (L ++ [LBlk.cells (tokL t) 29 false 0]).length := by simp
    have st0 : Step G L G (L ++ [LBlk.cells (tokL t) 29 false 0]) := .push _ _ _
    have h0 : PS (L ++ [LBlk.cells (tokL t) 29 false 0]) r w b1 b2 z1 z2 bs G F1 F2 := h.push
    generalize L ++ [LBlk.cells (tokL t) 29 false 0] = L0 at *
    simp only [e0, e1, e2, e3, e4, Option.bind_some, asI_int, obind_some]
    rw [f52_eq]
    simp only [lbindR_ret]
    have h1 : PS (L0 ++ [LBlk.cells [Value.pointer (some ⟨b1, 0, none⟩)] 58 false 0]) r w b1 b2 z1 z2 bs G F1 F2 := h0.push
    have k1 : (L0 ++ [LBlk.cells [Value.pointer (some ⟨b1, 0, none⟩)] 58 false 0])[L0.length]? = some (.cells [Value.pointer (some ⟨b1, 0, none⟩)] 58 false 0) := get_new
    have g1 : (L0 ++ [LBlk.cells [Value.pointer (some ⟨b1, 0, none⟩)] 58 false 0])[L.length]? = some (.cells (tokL t) 29 false 0) := by rw [get_push hlen0, g0]
    have st1 : Step G L0 G (L0 ++ [LBlk.cells [Value.pointer (some ⟨b1, 0, none⟩)] 58 false 0]) := .push _ _ _
    have hlen1 : L0.length < (L0 ++ [LBlk.cells [Value.pointer (some ⟨b1, 0, none⟩)] 58 false 0]).length := by simp
    obtain ⟨e0, e1, e2, e3, e4⟩ := tok_cell g1
    generalize L0 ++ [LBlk.cells [Value.pointer (some ⟨b1, 0, none⟩)] 58 false 0] = L1 at *
    simp only [e0, e1, e2, e3, e4, Option.bind_some, asI_int, obind_some, same_self, when_true]
    rw [f52_eq]
    simp only [lbindR_ret]
    have h2 : PS (L1 ++ [LBlk.cells [Value.pointer (some ⟨b2, 0, none⟩)] 58 false 0]) r w b1 b2 z1 z2 bs G F1 F2 := h1.push
    have k2 : (L1 ++ [LBlk.cells [Value.pointer (some ⟨b2, 0, none⟩)] 58 false 0])[L1.length]? = some (.cells [Value.pointer (some ⟨b2, 0, none⟩)] 58 false 0) := get_new
    have k1' : (L1 ++ [LBlk.cells [Value.pointer (some ⟨b2, 0, none⟩)] 58 false 0])[L0.length]? = some (.cells [Value.pointer (some ⟨b1, 0, none⟩)] 58 false 0) := by rw [get_push hlen1, k1]
    have g2 : (L1 ++ [LBlk.cells [Value.pointer (some ⟨b2, 0, none⟩)] 58 false 0])[L.length]? = some (.cells (tokL t) 29 false 0) := by rw [get_push (by omega), g1]
    have st2 : Step G L1 G (L1 ++ [LBlk.cells [Value.pointer (some ⟨b2, 0, none⟩)] 58 false 0]) := .push _ _ _
    obtain ⟨e0, e1, e2, e3, e4⟩ := tok_cell g2
    generalize L1 ++ [LBlk.cells [Value.pointer (some ⟨b2, 0, none⟩)] 58 false 0] = L2 at *
    simp only [e0, e1, e2, e3, e4, Option.bind_some, asI_int, obind_some, same_self, when_true]
    have nG : ∀ {x : Nat}, L.length ≤ x → x ∉ G := fun {x} hx hi => by have := h.bw.within _ hi; omega
    obtain ⟨L3, G3, v1, v2, v3⟩ := put_said (k := kk + 1) h2 hsh hw m1 m2 p1 p2 k1' k2 (nG (by omega)) (nG (by omega)) (by omega) (by omega)
    have v1 : f47 (kk + 1) t.k t.b t.l t.d t.s (.func (.func 53) #[] #[.pointer (some ⟨L0.length, 0, none⟩), .pointer (some ⟨r, 0, none⟩)]) (.func (.func 53) #[] #[.pointer (some ⟨L1.length, 0, none⟩), .pointer (some ⟨r, 0, none⟩)])
      (.func (.func 55) #[] #[.pointer (some ⟨r, 0, none⟩)]) L2 = some (.ret (.tuple #[]) L3) := v1
    rw [v1]
    simp only [lbindR_ret]
    have sAll : Step G L G3 L3 := st0.trans (st1.trans (st2.trans v3))
    have htl := tokBits_le m1 m2 hsh
    obtain ⟨L4, G4, w1, w2, w3⟩ := ih (i + 1) j _ G3 L3 (by omega) (by omega) (hl.mono (sAll.others hl.within hA)) (sAll.apart hl.within hA) v2 (by rw [List.length_append]; omega)
    rw [wI64 (by omega) (by omega), show (i : Int) + 1 = ((i + 1 : Nat) : Int) by omega]
    refine ⟨L4, G4, sAll.trans w1, ?_, ?_⟩
    · rw [hdr, List.flatMap_cons, ← List.append_assoc]
      exact w2
    · rw [w3]
      congr 1
      omega
theorem cut_all {L : LHeap} {b n : Nat} (hn : n < 1000) (h0 : n ≠ 0) : cut L ⟨some ⟨b, 0, none⟩, n, n⟩ none none none 1 = some ⟨some ⟨b, 0, none⟩, n, n⟩ := by
  have hO : Nat.blt n OPEN = true := by rw [show OPEN = 18446744073709551616 from rfl]; simp; omega
  simp only [cut, hO, cond_true, Option.isSome_none, cond_false, bound_out (Nat.le_refl n), bound_out (Nat.zero_le n), Option.bind_eq_bind, Option.bind_some]
  rw [if_neg (by omega)]
  simp [mk_add]
theorem cut_to {L : LHeap} {b n m : Nat} (hn : n < 1000) (hm : m ≤ n) (h0 : n ≠ 0) : cut L ⟨some ⟨b, 0, none⟩, n, n⟩ none (some (m : Int)) none 1 = some ⟨some ⟨b, 0, none⟩, m, n⟩ := by
  have hO : Nat.blt n OPEN = true := by rw [show OPEN = 18446744073709551616 from rfl]; simp; omega
  simp only [cut, hO, cond_true, Option.isSome_none, cond_false, bound_out (Nat.le_refl n), bound_at n hm, bound_out (Nat.zero_le m), Option.bind_eq_bind, Option.bind_some]
  rw [if_neg (by omega)]
  simp [mk_add]
theorem strOf_app (a b : List Nat) : strOf a ++ strOf b = strOf (a ++ b) := by
  apply ByteArray.ext
  rw [ByteArray.data_append]
  simp [strOf]
/-- Tokens packed, or the panic that tells that one's shape may not be. -/
theorem packed_ok {k : Nat} {l : Sl} {ts : List Tok} {A : List Nat} {L : LHeap} (hl : RT L l ts A) (hf : Fit ts) (hk : ts.length + 900 ≤ k) :
    ∃ L', Step [] L [] L' ∧ f27 k l L = if ts.all tokShape then some (.ret (.string (strOf (packB ts))) L') else some (.pan (.iface 24 (.int .i64 4)) L') := by
  obtain ⟨k, rfl⟩ : ∃ k', k = k' + 1 := ⟨k - 1, by omega⟩
  obtain ⟨hlen, hw⟩ := hf
  have hn := hl.len
  rw [f27_eq]
  have hrep : List.replicate 277 (Value.int IntKind.i64 0) = (List.replicate 277 (0 : Int)).map iV := by rw [List.map_replicate]; rfl
  rw [hrep]
  have st1 : Step [] L [L.length] (L ++ [LBlk.cells ((List.replicate 277 (0 : Int)).map iV) 80 false 0]) := .new _ _ _
  have g1 : (L ++ [LBlk.cells ((List.replicate 277 (0 : Int)).map iV) 80 false 0])[L.length]? = some (.cells ((List.replicate 277 (0 : Int)).map iV) 80 false 0) := get_new
  have hlt : L.length < (L ++ [LBlk.cells ((List.replicate 277 (0 : Int)).map iV) 80 false 0]).length := by simp
  generalize L ++ [LBlk.cells ((List.replicate 277 (0 : Int)).map iV) 80 false 0] = L1 at *
  have st2 : Step [L.length] L1 [L1.length, L.length] (L1 ++ [LBlk.cells ((List.replicate 277 (0 : Int)).map iV) 80 false 0]) := .new _ _ _
  have g2 : (L1 ++ [LBlk.cells ((List.replicate 277 (0 : Int)).map iV) 80 false 0])[L1.length]? = some (.cells ((List.replicate 277 (0 : Int)).map iV) 80 false 0) := get_new
  have g1' : (L1 ++ [LBlk.cells ((List.replicate 277 (0 : Int)).map iV) 80 false 0])[L.length]? = some (.cells ((List.replicate 277 (0 : Int)).map iV) 80 false 0) := by rw [get_push hlt, g1]
  generalize L1 ++ [LBlk.cells ((List.replicate 277 (0 : Int)).map iV) 80 false 0] = L2 at *
  rw [mk_add, stores_of g1' (by simp)]
  have hset : setAll ((List.replicate 277 (0 : Int)).map iV) (0 + 256) [Value.int IntKind.i64 1] = ((List.replicate 277 (0 : Int)).set 256 1).map iV := by
    rw [List.map_set]; rfl
  rw [hset]
  simp only [obind_some]
  have st3 : Step [L1.length, L.length] L2 [L1.length, L.length] (L2.set L.length (.cells (((List.replicate 277 (0 : Int)).set 256 1).map iV) 80 false 0)) := .set _ (by simp)
  have q1 : (L2.set L.length (.cells (((List.replicate 277 (0 : Int)).set 256 1).map iV) 80 false 0))[L.length]? = some (.cells (((List.replicate 277 (0 : Int)).set 256 1).map iV) 80 false 0) := get_set_self g1'
  have q2 : (L2.set L.length (.cells (((List.replicate 277 (0 : Int)).set 256 1).map iV) 80 false 0))[L1.length]? = some (.cells ((List.replicate 277 (0 : Int)).map iV) 80 false 0) := by rw [get_set_ne (by omega), g2]
  generalize L2.set L.length (.cells (((List.replicate 277 (0 : Int)).set 256 1).map iV) 80 false 0) = L3 at *
  have sA : Step [] L [L1.length, L.length] L3 := st1.trans (st2.trans st3)
  have hlw := hl.within
  have apL : Apart [L.length, L1.length] A := by
    intro x hx ha
    have := hlw x ha
    simp at hx
    omega
  have hl3 : RT L3 l ts A := hl.mono (sA.others hlw fun _ h => by cases h)
  have bnd : ∀ x ∈ (List.replicate 277 (0 : Int)).set 256 1, 0 ≤ x ∧ x ≤ ((0 : Nat) : Int) + 1 := by
    intro x hx
    rcases List.mem_or_eq_of_mem_set hx with h1 | h1
    · rw [List.eq_of_mem_replicate h1]; omega
    · omega
  have bnd2 : ∀ x ∈ List.replicate 277 (0 : Int), 0 ≤ x ∧ x ≤ ((0 : Nat) : Int) + 1 := by
    intro x hx
    rw [List.eq_of_mem_replicate hx]; omega
  obtain ⟨L4, t1, t2, t3⟩ := tally_loop (k := k) (r1 := L.length) (r2 := L1.length) (by omega) apL hw (by omega) (by omega) ts.length 0 k _ _ L3 (by omega) (by omega) hl3 q1 q2 (by simp) (by simp) bnd bnd2
  have sB : Step [] L [] L4 := (sA.trans (t1.mono fun i hi => by simp at hi ⊢; omega)).less fun i hi => by cases hi
  rw [List.drop_zero] at t2 t3
  by_cases hall : ∀ t ∈ ts, tokShape t = true
  case neg =>
    refine ⟨L4, sB, ?_⟩
    rw [if_neg (by simpa using hall)]
    exact t3 hall
  · have hA2 : ts.all tokShape = true := by simpa using hall
    simp only [hA2, if_true]
    obtain ⟨u1, u2, u3⟩ := t2 hall
    have hsy1 : ∀ t ∈ ts, sym1 t < 277 := fun t ht => (sym1_lt (hall t ht) (hw t ht)).1
    have hsy2 : ∀ t ∈ ts, t.k ≠ 1 → sym2 t < 9 := fun t ht h => sym2_lt (hall t ht) h
    rw [tick1_freq hsy1] at u1
    have htk := tick2_freq (ts := ts) fun t ht h => by have := hsy2 t ht h; omega
    have r1 : Rd L4 ⟨some ⟨L.length, 0, none⟩, 277, 277⟩ ((freq1 ts).map iV) [L.length] :=
      ⟨by simp, .inr ⟨L.length, 0, _, 80, false, 0, rfl, u1, fun i hi => by rw [Nat.zero_add], rfl⟩⟩
    have r2 : Rd L4 ⟨some ⟨L1.length, 0, none⟩, 9, 277⟩ ((freq2 ts).map iV) [L1.length] := by
      refine ⟨by simp, .inr ⟨L1.length, 0, _, 80, false, 0, rfl, u2, fun i hi => ?_, rfl⟩⟩
      have hi9 : i < 9 := by simpa using hi
      rw [Nat.zero_add, List.getElem?_map, List.getElem?_map, ← htk, List.getElem?_take, if_pos hi9]
    have hm1 := may1 hlen
    have hm2 := may2 hlen
    have u3' : f27_l4 k k l L.length L1.length l (l.n : Int) 0 L3 = f27_l4 k (k - ts.length) l L.length L1.length l (l.n : Int) (ts.length : Int) L4 := u3
    rw [u3']
    obtain ⟨j, hj⟩ : ∃ j, k - ts.length = j + 1 := ⟨k - ts.length - 1, by omega⟩
    rw [hj, f27_l4_eq, decide_eq_false (by omega), lif_false, cut_all (by omega) (by omega)]
    simp only [obind_some]
    obtain ⟨b1, F1, L5, c1, c2, c3⟩ := coder_ok (k := k) r1 (freq1_ok hlen) (by simp) (by simp; omega)
    rw [c1]
    simp only [lbind_ret, tupL_tuple, uncons_cons, nilL_nil, asP_pointer, asS_string, obind_some]
    rw [show (9 : Int) = ((9 : Nat) : Int) from rfl, cut_to (by omega) (by omega) (by omega)]
    simp only [obind_some]
    obtain ⟨b2, F2, L6, d1, d2, d3⟩ := coder_ok (k := k) (r2.mono (c3.others r2.within fun _ h => by cases h)) (freq2_ok hlen) (by simp) (by simp; omega)
    rw [d1]
    simp only [lbind_ret, tupL_tuple, uncons_cons, nilL_nil, asP_pointer, asS_string, obind_some]
    have cO1 : CO L6 b1 (lens1 ts) F1 := c2.mono (d3.others c2.within fun _ h => by cases h) d3.len
    have sC : Step [] L [] L6 := sB.trans ((c3.less fun i hi => by cases hi).trans (d3.less fun i hi => by cases hi))
    rw [stores_new (by rfl)]
    simp only [obind_some]
    have pw : BW (L6 ++ [LBlk.cells [Value.slice none 0 0, Value.int IntKind.i64 0] 88 false 0]) L6.length [] [L6.length] := BW.new _
    have w1 : Step [] L6 [L6.length] (L6 ++ [LBlk.cells [Value.slice none 0 0, Value.int IntKind.i64 0] 88 false 0]) := .new _ _ _
    have hlt6 : L6.length < (L6 ++ [LBlk.cells [Value.slice none 0 0, Value.int IntKind.i64 0] 88 false 0]).length := by simp
    generalize L6 ++ [LBlk.cells [Value.slice none 0 0, Value.int IntKind.i64 0] 88 false 0] = L7 at *
    have w2 : Step [L6.length] L7 [L6.length] (L7 ++ [LBlk.cells [Value.pointer (some ⟨L6.length, 0, none⟩)] 86 false 0]) := .push _ _ _
    have pr : (L7 ++ [LBlk.cells [Value.pointer (some ⟨L6.length, 0, none⟩)] 86 false 0])[L7.length]? = some (.cells [Value.pointer (some ⟨L6.length, 0, none⟩)] 86 false 0) := get_new
    have pw2 : BW (L7 ++ [LBlk.cells [Value.pointer (some ⟨L6.length, 0, none⟩)] 86 false 0]) L6.length [] [L6.length] := pw.mono fun i hi => get_push (pw.within i hi)
    generalize L7 ++ [LBlk.cells [Value.pointer (some ⟨L6.length, 0, none⟩)] 86 false 0] = L8 at *
    have sD : Step [] L6 [L6.length] L8 := w1.trans w2
    have ps : PS L8 L7.length L6.length b1 b2 (lens1 ts) (lens2 ts) [] [L6.length] F1 F2 := by
      refine ⟨pr, pw2, cO1.mono (sD.others cO1.within fun _ h => by cases h) sD.len, d2.mono (sD.others d2.within fun _ h => by cases h) sD.len, by simp; omega, ?_, ?_⟩
      · intro x hx hf
        have := cO1.within x hf
        simp at hx; omega
      · intro x hx hf
        have := d2.within x hf
        simp at hx; omega
    have hl8 : RT L8 l ts A := hl.mono fun i hi => by
      have h1 := sC.keep i (hlw i hi) (by simp)
      have h2 := sD.keep i (by have := hlw i hi; have := sC.len; omega) (by simp)
      rw [h2, h1]
    have ap8 : Apart [L6.length] A := by
      intro x hx ha
      have := hlw x ha
      have := sC.len
      simp at hx; omega
    obtain ⟨L9, G9, x1, x2, x3⟩ := putAll_loop (k := k) (r := L7.length) (w := L6.length) (b1 := b1) (b2 := b2) (s1 := strOf (tabBytes (lens1 ts))) (s3 := strOf (tabBytes (lens2 ts))) (l := l) (ts := ts) (A := A) (F1 := F1) (F2 := F2)
      (fun t ht => ⟨hall t ht, hw t ht, pos1 hlen ht (hsy1 t ht), fun hk => pos2 hlen ht hk (hsy2 t ht hk)⟩) hm1 hm2 hlen (by omega) ts.length 0 k [] [L6.length] L8 (by omega) (by omega) hl8 ap8 ps (by simp; omega)
    have x3' : f27_l16 k k (some ⟨b1, 0, none⟩) (strOf (tabBytes (lengthsOf (freq1 ts)))) (some ⟨b2, 0, none⟩) (strOf (tabBytes (lengthsOf (freq2 ts)))) L7.length L7.length L7.length l (l.n : Int) 0 L8 =
      f27_l16 k (k - ts.length) (some ⟨b1, 0, none⟩) (strOf (tabBytes (lengthsOf (freq1 ts)))) (some ⟨b2, 0, none⟩) (strOf (tabBytes (lengthsOf (freq2 ts)))) L7.length L7.length L7.length l (l.n : Int) (ts.length : Int) L9 := x3
    rw [x3', hj, f27_l16_eq, decide_eq_false (by omega), lif_false]
    obtain ⟨kk, rfl⟩ : ∃ k', k = k' + 1 := ⟨k - 1, by omega⟩
    rw [f52_eq]
    simp only [lbind_ret]
    have y1 : PS (L9 ++ [LBlk.cells [Value.pointer (some ⟨b1, 0, none⟩)] 58 false 0]) L7.length L6.length b1 b2 (lens1 ts) (lens2 ts) _ G9 F1 F2 := x2.push
    have y2 : (L9 ++ [LBlk.cells [Value.pointer (some ⟨b1, 0, none⟩)] 58 false 0])[L9.length]? = some (.cells [Value.pointer (some ⟨b1, 0, none⟩)] 58 false 0) := get_new
    have y3 : Step G9 L9 G9 (L9 ++ [LBlk.cells [Value.pointer (some ⟨b1, 0, none⟩)] 58 false 0]) := .push _ _ _
    generalize L9 ++ [LBlk.cells [Value.pointer (some ⟨b1, 0, none⟩)] 58 false 0] = L10 at *
    have hbl := packBits_le hm1 hm2 ts hall
    have hbl2 : (([] : List Bool) ++ (ts.drop 0).flatMap (tokBits (lens1 ts) (lens2 ts))).length ≤ 52 * ts.length + 15 := by
      rw [List.drop_zero, List.nil_append]
      unfold packBits at hbl
      rw [List.length_append] at hbl
      omega
    obtain ⟨L11, G11, z1, z2, z3⟩ := app53 (k := kk + 1) (s := 256) y2 y1.at_r y1.c1 hm1 y1.bw (by omega) (pos256 hlen) (by omega)
    have z1' : lapp (lcall Proofs.Try.prog T (kk + 1)) (.func (.func 53) #[] #[.pointer (some ⟨L9.length, 0, none⟩), .pointer (some ⟨L7.length, 0, none⟩)]) [.int .i64 256] L10 = some (.ret (.tuple #[]) L11) := z1
    rw [z1']
    simp only [lbind_ret]
    have y4 := y1.step z3 z2
    have ht1 := tabBytes_len_le (lens1 ts)
    have ht2 := tabBytes_len_le (lens2 ts)
    rw [lens1_length] at ht1
    rw [lens2_length] at ht2
    rw [decide_eq_true (by
      show (((strOf (tabBytes (lens1 ts))).size + (strOf (tabBytes (lens2 ts))).size : Nat) : Int) ≤ maxI
      rw [strOf_size, strOf_size]; unfold maxI; omega), when_true]
    have c0 : cell L11 ⟨L7.length, 0, none⟩ = some (.pointer (some ⟨L6.length, 0, none⟩)) := by rw [cell_of y4.at_r]; rfl
    obtain ⟨vs, v1, v2⟩ := bytes_ok (k := kk + 1) y4.bw (by omega)
    simp only [c0, Option.bind_some, asP_pointer, obind_some, v2, lbind_ret, asS_string]
    have hpk : vs = packOf (packBits (lens1 ts) (lens2 ts) ts) := by
      refine v1.unique ?_
      have := packOf_ok (packBits (lens1 ts) (lens2 ts) ts)
      rw [List.drop_zero, List.nil_append]
      exact this
    have hfin : strOf (tabBytes (lens1 ts)) ++ strOf (tabBytes (lens2 ts)) ++ strOf vs = strOf (packB ts) := by
      rw [hpk, strOf_app, strOf_app, packB, List.append_assoc]
    have hfin' : strOf (tabBytes (lengthsOf (freq1 ts))) ++ strOf (tabBytes (lengthsOf (freq2 ts))) ++ strOf vs = strOf (packB ts) := hfin
    rw [decide_eq_true (by
      rw [strOf_app, strOf_size, strOf_size, hpk, packOf_length, List.length_append]
      show ((((tabBytes (lens1 ts)).length + (tabBytes (lens2 ts)).length + ((packBits (lens1 ts) (lens2 ts) ts).length + 7) / 8 : Nat)) : Int) ≤ maxI
      unfold maxI; omega), when_true, hfin']
    refine ⟨L11, ?_, rfl⟩
    have sE : Step [] L6 [] L11 := (sD.trans (x1.trans (y3.trans z3))).less fun i hi => by cases hi
    exact sC.trans sE
end Go.Proofs.Ytflhogapjmdkaaa.X
end

section
set_option maxRecDepth 100000
set_option linter.unusedVariables false
namespace Go.Proofs.Ytflhogapjmdkaaa.X
open Go Go.Rlm
def packStr (ts : List Tok) : ByteArray := if ts.all tokShape then strOf (packB ts) else ⟨#[]⟩
def packErr (ts : List Tok) : Int := if ts.all tokShape then 0 else 4
theorem pack_ok {k : Nat} {l : Sl} {ts : List Tok} {A : List Nat} {L : LHeap} (hl : RT L l ts A) (hf : Fit ts) (hk : ts.length + 1000 ≤ k) :
    ∃ L', f14 k l L = some (.ret (.tuple #[.string (packStr ts), .int .i64 (packErr ts)]) L') ∧ Step [] L [] L' := by
  obtain ⟨k, rfl⟩ : ∃ k', k = k' + 3 := ⟨k - 3, by omega⟩
  rw [f14_eq]
  have st1 : Step [] L [L.length] (L ++ [LBlk.cells [Value.slice l.a l.n l.c] 22 false 0]) := .new _ _ _
  have g1 : (L ++ [LBlk.cells [Value.slice l.a l.n l.c] 22 false 0])[L.length]? = some (.cells [Value.slice l.a l.n l.c] 22 false 0) := get_new
  have hlt1 : L.length < (L ++ [LBlk.cells [Value.slice l.a l.n l.c] 22 false 0]).length := by simp
  generalize L ++ [LBlk.cells [Value.slice l.a l.n l.c] 22 false 0] = L1 at *
  have st2 : Step [L.length] L1 [L1.length, L.length] (L1 ++ [LBlk.cells [Value.string (ByteArray.mk #[])] 9 false 0]) := .new _ _ _
  have g2 : (L1 ++ [LBlk.cells [Value.string (ByteArray.mk #[])] 9 false 0])[L1.length]? = some (.cells [Value.string (ByteArray.mk #[])] 9 false 0) := get_new
  have g1' : (L1 ++ [LBlk.cells [Value.string (ByteArray.mk #[])] 9 false 0])[L.length]? = some (.cells [Value.slice l.a l.n l.c] 22 false 0) := by rw [get_push hlt1, g1]
  have hlt2 : L1.length < (L1 ++ [LBlk.cells [Value.string (ByteArray.mk #[])] 9 false 0]).length := by simp
  generalize L1 ++ [LBlk.cells [Value.string (ByteArray.mk #[])] 9 false 0] = L2 at *
  have st3 : Step [L1.length, L.length] L2 [L2.length, L1.length, L.length] (L2 ++ [LBlk.cells [Value.int IntKind.i64 0] 24 false 0]) := .new _ _ _
  have q1 : (L2 ++ [LBlk.cells [Value.int IntKind.i64 0] 24 false 0])[L.length]? = some (.cells [Value.slice l.a l.n l.c] 22 false 0) := by rw [get_push (by omega), g1']
  have q2 : (L2 ++ [LBlk.cells [Value.int IntKind.i64 0] 24 false 0])[L1.length]? = some (.cells [Value.string (ByteArray.mk #[])] 9 false 0) := by rw [get_push hlt2, g2]
  have q3 : (L2 ++ [LBlk.cells [Value.int IntKind.i64 0] 24 false 0])[L2.length]? = some (.cells [Value.int IntKind.i64 0] 24 false 0) := get_new
  have hlt3 : L2.length < (L2 ++ [LBlk.cells [Value.int IntKind.i64 0] 24 false 0]).length := by simp
  have sA := st1.trans (st2.trans st3)
  have hk2 : ∀ M : LHeap, f26 (k + 1) L.length L1.length (L2 ++ [LBlk.cells [Value.int IntKind.i64 0] 24 false 0]) = some (.ret (.tuple #[]) M) → M[L2.length]? = some (.cells [Value.int IntKind.i64 0] 24 false 0) →
      f25 (k + 2) (.func (.func 26) #[] #[.pointer (some ⟨L.length, 0, none⟩), .pointer (some ⟨L1.length, 0, none⟩)]) L2 = some (.ret (.int .i64 0) (M.set L2.length (.cells [.int .i64 0] 24 false 0))) := fun M h1 h2 => caught_ret (k := k + 1) (v := .tuple #[]) h1 h2
  have hp2 : ∀ M : LHeap, f26 (k + 1) L.length L1.length (L2 ++ [LBlk.cells [Value.int IntKind.i64 0] 24 false 0]) = some (.pan (.iface 24 (.int .i64 4)) M) → M[L2.length]? = some (.cells [Value.int IntKind.i64 0] 24 false 0) →
      f25 (k + 2) (.func (.func 26) #[] #[.pointer (some ⟨L.length, 0, none⟩), .pointer (some ⟨L1.length, 0, none⟩)]) L2 = some (.ret (.int .i64 4) (M.set L2.length (.cells [.int .i64 4] 24 false 0))) := fun M h1 h2 => caught_pan (k := k + 1) (n := 4) h1 h2
  generalize hL3 : L2 ++ [LBlk.cells [Value.int IntKind.i64 0] 24 false 0] = L3 at *
  have hlw := hl.within
  have hl3 : RT L3 l ts A := hl.mono fun i hi => sA.keep i (hlw i hi) (by simp)
  obtain ⟨L4, a1, a2⟩ := packed_ok (k := k) hl3 hf (by omega)
  have c0 : cell L3 ⟨L.length, 0, none⟩ = some (.slice l.a l.n l.c) := by rw [cell_of q1]; rfl
  have p2 : L4[L1.length]? = some (.cells [Value.string (ByteArray.mk #[])] 9 false 0) := by rw [a1.keep _ (by omega) (by simp), q2]
  have p3 : L4[L2.length]? = some (.cells [Value.int IntKind.i64 0] 24 false 0) := by rw [a1.keep _ (by omega) (by simp), q3]
  have sB : Step [] L [L2.length, L1.length, L.length] L4 := sA.trans ((a1.mono (G := [L2.length, L1.length, L.length]) (by simp)).less fun i hi => .inr hi)
  have hw : ∀ (b : Nat) (x : LBlk) (M : LHeap), Step [] L [L2.length, L1.length, L.length] M → b ∈ [L2.length, L1.length, L.length] → Step [] L [L2.length, L1.length, L.length] (M.set b x) := fun b x M h hb => h.trans (.set _ hb)
  have e26 : f26 (k + 1) L.length L1.length L3 = lbind (f27 k l L3) fun v3 L4 => obind (asS v3) fun s5 => obind (stores L4 (Addr.mk L1.length 0 none) [Value.string s5]) fun L6 => some (LR.ret (Value.tuple #[]) L6) := by
    rw [f26_eq]
    simp only [c0, Option.bind_some, asSl_slice, obind_some]
  cases hall : ts.all tokShape with
  | true =>
    rw [hall, if_pos rfl] at a2
    rw [a2] at e26
    simp only [lbind_ret, asS_string, obind_some] at e26
    rw [stores_of p2 (by simp)] at e26
    simp only [setAll, List.set_cons_zero, obind_some] at e26
    have p2' : (L4.set L1.length (.cells [Value.string (strOf (packB ts))] 9 false 0))[L1.length]? = some (.cells [Value.string (strOf (packB ts))] 9 false 0) := get_set_self p2
    have p3' : (L4.set L1.length (.cells [Value.string (strOf (packB ts))] 9 false 0))[L2.length]? = some (.cells [Value.int IntKind.i64 0] 24 false 0) := by rw [get_set_ne (by omega), p3]
    have sC := hw L1.length (.cells [Value.string (strOf (packB ts))] 9 false 0) _ sB (by simp)
    generalize L4.set L1.length (.cells [Value.string (strOf (packB ts))] 9 false 0) = L5 at *
    rw [hk2 _ e26 p3']
    simp only [lbind_ret, asI_int, obind_some]
    have p2'' : (L5.set L2.length (.cells [Value.int IntKind.i64 0] 24 false 0))[L1.length]? = some (.cells [Value.string (strOf (packB ts))] 9 false 0) := by rw [get_set_ne (by omega), p2']
    have sD := hw L2.length (.cells [Value.int IntKind.i64 0] 24 false 0) _ sC (by simp)
    generalize L5.set L2.length (.cells [Value.int IntKind.i64 0] 24 false 0) = L6 at *
    have c1 : cell L6 ⟨L1.length, 0, none⟩ = some (.string (strOf (packB ts))) := by rw [cell_of p2'']; rfl
    rw [c1]
    simp only [Option.bind_some, asS_string, obind_some]
    rw [stores_of p2'' (by simp)]
    simp only [setAll, List.set_cons_zero, obind_some]
    have c2 : cell (L6.set L1.length (.cells [Value.string (strOf (packB ts))] 9 false 0)) ⟨L1.length, 0, none⟩ = some (.string (strOf (packB ts))) := by rw [cell_of (get_set_self p2'')]; rfl
    rw [c2]
    refine ⟨_, by unfold packStr packErr; rw [hall]; rfl, (hw _ _ _ sD (by simp)).less fun i hi => by cases hi⟩
  | false =>
    rw [hall, if_neg (by decide)] at a2
    rw [a2] at e26
    simp only [lbind_pan] at e26
    rw [hp2 _ e26 p3]
    simp only [lbind_ret, asI_int, obind_some]
    have p2'' : (L4.set L2.length (.cells [Value.int IntKind.i64 4] 24 false 0))[L1.length]? = some (.cells [Value.string (ByteArray.mk #[])] 9 false 0) := by rw [get_set_ne (by omega), p2]
    have sD := hw L2.length (.cells [Value.int IntKind.i64 4] 24 false 0) _ sB (by simp)
    generalize L4.set L2.length (.cells [Value.int IntKind.i64 4] 24 false 0) = L6 at *
    have c1 : cell L6 ⟨L1.length, 0, none⟩ = some (.string (ByteArray.mk #[])) := by rw [cell_of p2'']; rfl
    rw [c1]
    simp only [Option.bind_some, asS_string, obind_some]
    rw [stores_of p2'' (by simp)]
    simp only [setAll, List.set_cons_zero, obind_some]
    have c2 : cell (L6.set L1.length (.cells [Value.string (ByteArray.mk #[])] 9 false 0)) ⟨L1.length, 0, none⟩ = some (.string (ByteArray.mk #[])) := by rw [cell_of (get_set_self p2'')]; rfl
    rw [c2]
    refine ⟨_, by unfold packStr packErr; rw [hall]; rfl, (hw _ _ _ sD (by simp)).less fun i hi => by cases hi⟩
structure DS (L : LHeap) (N d x b1 b2 : Nat) (z1 z2 : List Int) (r : List Bool) : Prop where
  at_d : L[d]? = some (.cells [.pointer (some ⟨x, 0, none⟩), .pointer (some ⟨b1, 0, none⟩), .pointer (some ⟨b2, 0, none⟩)] 65 false 0)
  br : BR L x r
  c1 : ∃ F, CO L b1 z1 F ∧ x ∉ F ∧ ∀ i ∈ F, i < N
  c2 : ∃ F, CO L b2 z2 F ∧ x ∉ F ∧ ∀ i ∈ F, i < N
  dN : d < N
  xN : x < N
  ne : d ≠ x
  NL : N ≤ L.length
theorem DS.step {L L' : LHeap} {N d x b1 b2 : Nat} {z1 z2 : List Int} {r r' : List Bool} (h : DS L N d x b1 b2 z1 z2 r) (hs : Step [x] L [x] L') (hb : BR L' x r') : DS L' N d x b1 b2 z1 z2 r' := by
  obtain ⟨h1, h2, ⟨F1, f1, f2, f3⟩, ⟨F2, g1, g2, g3⟩, h5, h6, h7, h8⟩ := h
  have k : ∀ i, i < L.length → i ≠ x → L'[i]? = L[i]? := fun i hi hx => hs.keep i hi (by simpa using hx)
  refine ⟨by rw [k d (by omega) h7, h1], hb, ⟨F1, f1.mono (fun i hi => k i (by have := f3 i hi; omega) fun e => f2 (e ▸ hi)) hs.len, f2, f3⟩, ⟨F2, g1.mono (fun i hi => k i (by have := g3 i hi; omega) fun e => g2 (e ▸ hi)) hs.len, g2, g3⟩, h5, h6, h7, Nat.le_trans h8 hs.len⟩
theorem DS.frame {L L' : LHeap} {N d x b1 b2 : Nat} {z1 z2 : List Int} {r : List Bool} (h : DS L N d x b1 b2 z1 z2 r) (hk : ∀ i, i < N → L'[i]? = L[i]?) (hl : L.length ≤ L'.length) : DS L' N d x b1 b2 z1 z2 r := by
  obtain ⟨h1, h2, ⟨F1, f1, f2, f3⟩, ⟨F2, g1, g2, g3⟩, h5, h6, h7, h8⟩ := h
  exact ⟨by rw [hk d h5, h1], h2.mono (hk x h6), ⟨F1, f1.mono (fun i hi => hk i (f3 i hi)) hl, f2, f3⟩, ⟨F2, g1.mono (fun i hi => hk i (g3 i hi)) hl, g2, g3⟩, h5, h6, h7, Nat.le_trans h8 hl⟩
theorem or_i64 {m v : Nat} (hm : m ≤ 40) (hv : v < 2 ^ m) : bitop .or .i64 (IntKind.wrap IntKind.i64 (1 * 2 ^ min (Int.toNat ((m : Nat) : Int)) 64)) (IntKind.wrap IntKind.i64 (v : Int)) = ((2 ^ m + v : Nat) : Int) := by
  have hp : 2 ^ m ≤ 2 ^ 40 := Nat.pow_le_pow_right (by omega) hm
  rw [show min (Int.toNat ((m : Nat) : Int)) 64 = m by simp; omega, Int.one_mul]
  have e : (2 : Int) ^ m = ((2 ^ m : Nat) : Int) := by push_cast; rfl
  rw [e, wI64 (by omega) (by omega), wI64 (by omega) (by omega)]
  simp only [bitop, BitVec.ofInt_natCast, BitVec.toNat_or, BitVec.toNat_ofNat]
  rw [Nat.mod_eq_of_lt (by simp only [IntKind.bits]; omega), Nat.mod_eq_of_lt (by simp only [IntKind.bits]; omega)]
  have := Nat.two_pow_add_eq_or_of_lt (i := m) hv 1
  rw [Nat.mul_one] at this
  rw [← this, wI64 (by omega) (by omega)]
theorem number_ok {k N d x b1 b2 size : Nat} {z1 z2 : List Int} {r : List Bool} {L : LHeap} (h : DS L N d x b1 b2 z1 z2 r) (hs : size ≤ 32) (hk : 60 ≤ k) :
    ∃ L' v e r', f65 k (some ⟨d, 0, none⟩) (size : Int) L = some (.ret (.tuple #[.int .i64 v, .int .i64 e]) L') ∧ Step [x] L [x] L' ∧ DS L' N d x b1 b2 z1 z2 r' ∧
      (match readNum size r with | none => e ≠ 0 | some (n, r'') => e = 0 ∧ v = (n : Int) ∧ r' = r'' ∧ n < 2 ^ 33) := by
  obtain ⟨k, rfl⟩ : ∃ k', k = k' + 1 := ⟨k - 1, by omega⟩
  rw [f65_eq]
  by_cases h2 : size < 2
  · rw [decide_eq_true (by omega), lif_true]
    refine ⟨L, _, _, r, rfl, .refl _ _, h, ?_⟩
    unfold readNum
    rw [if_pos h2]
    exact ⟨rfl, rfl, rfl, by omega⟩
  · have c0 : cell L ((Addr.mk d 0 none).add 0) = some (.pointer (some ⟨x, 0, none⟩)) := by rw [mk_add, cell_of h.at_d]; rfl
    rw [decide_eq_false (by omega), lif_false]
    simp only [obind_some]
    rw [c0]
    simp only [Option.bind_some, asP_pointer, obind_some]
    rw [wI64 (by omega) (by omega), show (size : Int) - 1 = ((size - 1 : Nat) : Int) by omega]
    obtain ⟨L', a1, a2, a3⟩ := take_ok (k := k) (n := ((size - 1 : Nat) : Int)) h.br (by omega)
    rw [a1]
    unfold taken
    simp only [lbind_ret, tupL_tuple, uncons_cons, nilL_nil, asI_int, obind_some]
    rw [decide_eq_false (by omega), Bool.not_false, when_true]
    refine ⟨L', _, _, _, rfl, a3, h.step a3 a2, ?_⟩
    unfold readNum
    rw [if_neg h2]
    by_cases h3 : r.length < size - 1
    · rw [if_pos h3]
      unfold takeErr
      rw [if_neg (by omega), if_pos (by omega)]
      show (4 : Int) ≠ 0
      decide
    · rw [if_neg h3]
      have hc : takeCnt r ((size - 1 : Nat) : Int) = size - 1 := by
        unfold takeCnt
        rw [if_neg (by omega), if_neg (by omega), Int.toNat_natCast]
      have hlen : (r.take (size - 1)).length = size - 1 := by simp; omega
      have hlt := bitNum_lt (r.take (size - 1))
      rw [hlen] at hlt
      have hp : 2 ^ (size - 1) ≤ 2 ^ 31 := Nat.pow_le_pow_right (by omega) (by omega)
      refine ⟨?_, ?_, by rw [hc], by omega⟩
      · unfold takeErr
        rw [if_neg (by omega), if_neg (by omega)]
      · unfold takeVal
        rw [hc]
        exact or_i64 (by omega) hlt
theorem long_ok {k N d x b1 b2 : Nat} {z1 z2 : List Int} {r : List Bool} {L : LHeap} (h : DS L N d x b1 b2 z1 z2 r) (m2 : may z2 = true) (h9 : z2.length = 9) (hk : 70 ≤ k) :
    ∃ L' v e r', f66 k (some ⟨d, 0, none⟩) L = some (.ret (.tuple #[.int .i64 v, .int .i64 e]) L') ∧ Step [x] L [x] L' ∧ DS L' N d x b1 b2 z1 z2 r' ∧
      (match readLen z2 r with | none => e ≠ 0 | some (l, r'') => e = 0 ∧ v = l ∧ r' = r'') := by
  obtain ⟨k, rfl⟩ : ∃ k', k = k' + 1 := ⟨k - 1, by omega⟩
  have c0 : cell L ((Addr.mk d 0 none).add 0) = some (.pointer (some ⟨x, 0, none⟩)) := by rw [mk_add, cell_of h.at_d]; rfl
  have c2 : cell L ((Addr.mk d 0 none).add 2) = some (.pointer (some ⟨b2, 0, none⟩)) := by rw [mk_add, cell_of h.at_d]; rfl
  obtain ⟨F, f1, f2, f3⟩ := h.c2
  obtain ⟨L1, a1, a2, a3⟩ := ctake_ok (k := k) f1 m2 h.br f2 (by omega)
  rw [f66_eq]
  simp only [obind_some]
  rw [c2, c0]
  simp only [Option.bind_some, asP_pointer, obind_some]
  rw [a1]
  simp only [lbindR_ret, tupL_tuple, uncons_cons, nilL_nil, asI_int, obind_some]
  have h1 := h.step a3 a2
  unfold readLen
  match hx : readSym z2 r with
  | (none, r1) =>
    rw [hx] at h1
    exact ⟨L1, _, _, _, rfl, a3, h1, by simp [decErr]⟩
  | (some i, r1) =>
    rw [hx] at h1
    obtain ⟨g1, g2, g3⟩ := readSym_some hx
    simp only [decErr, decSym]
    rw [show ((0 : Int) != 0) = false from rfl, lif_false]
    obtain ⟨L2, v, e, r2, d1, d2, d3, d4⟩ := number_ok (k := k) (size := i) h1 (by omega) (by omega)
    rw [d1]
    simp only [lbind_ret, tupL_tuple, uncons_cons, nilL_nil, asI_int, obind_some]
    refine ⟨L2, _, _, r2, rfl, a3.trans d2, d3, ?_⟩
    match hy : readNum i r1 with
    | none => rw [hy] at d4; exact d4
    | some (n, r3) =>
      rw [hy] at d4
      obtain ⟨e1, e2, e3, e4⟩ := d4
      refine ⟨e1, ?_, e3⟩
      rw [e2, wI64 (by omega) (by omega)]
end Go.Proofs.Ytflhogapjmdkaaa.X
end

section
set_option maxRecDepth 100000
set_option linter.unusedVariables false
namespace Go.Proofs.Ytflhogapjmdkaaa.X
open Go Go.Rlm
theorem stores_same {L : LHeap} {b : Nat} {t : Tok} (h : L[b]? = some (.cells (tokL t) 29 false 0)) :
    stores L ⟨b, 0, none⟩ [.int .u8 t.k, .int .u8 t.b, .int .i64 t.l, .int .i64 t.d, .int .i64 t.s] = some L := by
  rw [stores_of h (by simp [tokL]), setAll_all (by rfl)]
  congr 1
  apply List.ext_getElem?
  intro i
  by_cases hi : b = i
  · subst hi; rw [get_set_self h, h]; rfl
  · rw [get_set_ne hi]
/-- The token at b is read, and answered. -/
theorem tok_fin {L : LHeap} {b : Nat} {t : Tok} {x y : Value} (h : L[b]? = some (.cells (tokL t) 29 false 0)) :
    (obind (Option.bind (cell L (Addr.add (Addr.mk b 0 none) 0)) (asI IntKind.u8)) fun n20 =>
      obind (Option.bind (cell L (Addr.add (Addr.mk b 0 none) 1)) (asI IntKind.u8)) fun n21 =>
      obind (Option.bind (cell L (Addr.add (Addr.mk b 0 none) 2)) (asI IntKind.i64)) fun n22 =>
      obind (Option.bind (cell L (Addr.add (Addr.mk b 0 none) 3)) (asI IntKind.i64)) fun n23 =>
      obind (Option.bind (cell L (Addr.add (Addr.mk b 0 none) 4)) (asI IntKind.i64)) fun n24 =>
      some (LR.ret (Value.tuple #[Value.agg #[Value.int IntKind.u8 n20, Value.int IntKind.u8 n21, Value.int IntKind.i64 n22, Value.int IntKind.i64 n23, Value.int IntKind.i64 n24], x, y]) L)) =
    some (.ret (.tuple #[.agg #[.int .u8 t.k, .int .u8 t.b, .int .i64 t.l, .int .i64 t.d, .int .i64 t.s], x, y]) L) := by
  obtain ⟨e0, e1, e2, e3, e4⟩ := tok_cell h
  rw [e0]; simp only [Option.bind_some, asI_int, obind_some]
  rw [e1]; simp only [Option.bind_some, asI_int, obind_some]
  rw [e2]; simp only [Option.bind_some, asI_int, obind_some]
  rw [e3]; simp only [Option.bind_some, asI_int, obind_some]
  rw [e4]; simp only [Option.bind_some, asI_int, obind_some]
theorem tok_end {L : LHeap} {b : Nat} {t : Tok} {x y : Value} (h : L[b]? = some (.cells (tokL t) 29 false 0)) :
    (obind (Option.bind (cell L (Addr.add (Addr.mk b 0 none) 0)) (asI IntKind.u8)) fun n14 =>
      obind (Option.bind (cell L (Addr.add (Addr.mk b 0 none) 1)) (asI IntKind.u8)) fun n15 =>
      obind (Option.bind (cell L (Addr.add (Addr.mk b 0 none) 2)) (asI IntKind.i64)) fun n16 =>
      obind (Option.bind (cell L (Addr.add (Addr.mk b 0 none) 3)) (asI IntKind.i64)) fun n17 =>
      obind (Option.bind (cell L (Addr.add (Addr.mk b 0 none) 4)) (asI IntKind.i64)) fun n18 =>
      obind (stores L (Addr.mk b 0 none) [Value.int IntKind.u8 n14, Value.int IntKind.u8 n15, Value.int IntKind.i64 n16, Value.int IntKind.i64 n17, Value.int IntKind.i64 n18]) fun L19 =>
      obind (Option.bind (cell L19 (Addr.add (Addr.mk b 0 none) 0)) (asI IntKind.u8)) fun n20 =>
      obind (Option.bind (cell L19 (Addr.add (Addr.mk b 0 none) 1)) (asI IntKind.u8)) fun n21 =>
      obind (Option.bind (cell L19 (Addr.add (Addr.mk b 0 none) 2)) (asI IntKind.i64)) fun n22 =>
      obind (Option.bind (cell L19 (Addr.add (Addr.mk b 0 none) 3)) (asI IntKind.i64)) fun n23 =>
      obind (Option.bind (cell L19 (Addr.add (Addr.mk b 0 none) 4)) (asI IntKind.i64)) fun n24 =>
      some (LR.ret (Value.tuple #[Value.agg #[Value.int IntKind.u8 n20, Value.int IntKind.u8 n21, Value.int IntKind.i64 n22, Value.int IntKind.i64 n23, Value.int IntKind.i64 n24], x, y]) L19)) =
    some (.ret (.tuple #[.agg #[.int .u8 t.k, .int .u8 t.b, .int .i64 t.l, .int .i64 t.d, .int .i64 t.s], x, y]) L) := by
  obtain ⟨e0, e1, e2, e3, e4⟩ := tok_cell h
  rw [e0]; simp only [Option.bind_some, asI_int, obind_some]
  rw [e1]; simp only [Option.bind_some, asI_int, obind_some]
  rw [e2]; simp only [Option.bind_some, asI_int, obind_some]
  rw [e3]; simp only [Option.bind_some, asI_int, obind_some]
  rw [e4]; simp only [Option.bind_some, asI_int, obind_some]
  rw [stores_same h]
  simp only [obind_some]
  exact tok_fin h
theorem stores_tok {L : LHeap} {b : Nat} {t : Tok} (h : L[b]? = some (.cells (tokL t) 29 false 0)) :
    (∀ n, stores L (Addr.add (Addr.mk b 0 none) 0) [.int .u8 n] = some (L.set b (.cells (tokL { t with k := n }) 29 false 0))) ∧
    (∀ n, stores L (Addr.add (Addr.mk b 0 none) 2) [.int .i64 n] = some (L.set b (.cells (tokL { t with l := n }) 29 false 0))) ∧
    (∀ n, stores L (Addr.add (Addr.mk b 0 none) 3) [.int .i64 n] = some (L.set b (.cells (tokL { t with d := n }) 29 false 0))) ∧
    (∀ u : Tok, stores L (Addr.mk b 0 none) [.int .u8 u.k, .int .u8 u.b, .int .i64 u.l, .int .i64 u.d, .int .i64 u.s] = some (L.set b (.cells (tokL u) 29 false 0))) := by
  refine ⟨fun n => ?_, fun n => ?_, fun n => ?_, fun u => ?_⟩
  · rw [mk_add, stores_of h (by simp [tokL])]; rfl
  · rw [mk_add, stores_of h (by simp [tokL])]; rfl
  · rw [mk_add, stores_of h (by simp [tokL])]; rfl
  · rw [stores_of h (by simp [tokL])]; rfl
theorem Step.wide {F G : List Nat} {L L' : LHeap} (h : Step F L F L') (hG : ∀ i ∈ F, i ∈ G) : Step G L G L' := (h.mono hG).less fun _ hi => .inr hi
theorem next_ok {k N d x b1 b2 : Nat} {z1 z2 : List Int} {r : List Bool} {L : LHeap} (h : DS L N d x b1 b2 z1 z2 r) (m1 : may z1 = true) (m2 : may z2 = true) (h277 : z1.length = 277) (h9 : z2.length = 9) (hk : 90 ≤ k) :
    ∃ L' t b e r', f36 k (some ⟨d, 0, none⟩) L = some (.ret (.tuple #[.agg #[.int .u8 t.k, .int .u8 t.b, .int .i64 t.l, .int .i64 t.d, .int .i64 t.s], .bool b, .int .i64 e]) L') ∧ Step [x] L [x] L' ∧ DS L' N d x b1 b2 z1 z2 r' ∧
      (match readTok z1 z2 r with | none => e ≠ 0 | some (none, r'') => e = 0 ∧ b = false ∧ r' = r'' | some (some u, r'') => e = 0 ∧ b = true ∧ t = u ∧ r' = r'') := by
  obtain ⟨k, rfl⟩ : ∃ k', k = k' + 1 := ⟨k - 1, by omega⟩
  rw [f36_eq]
  have hz : [LBlk.cells [Value.int IntKind.u8 0, Value.int IntKind.u8 0, Value.int IntKind.i64 0, Value.int IntKind.i64 0, Value.int IntKind.i64 0] 29 false 0] = [LBlk.cells (tokL ⟨0, 0, 0, 0, 0⟩) 29 false 0] := rfl
  rw [hz]
  have hNL := h.NL
  have s0 : Step [x] L [L.length, x] (L ++ [LBlk.cells (tokL ⟨0, 0, 0, 0, 0⟩) 29 false 0]) := .new _ _ _
  have h0 : DS (L ++ [LBlk.cells (tokL ⟨0, 0, 0, 0, 0⟩) 29 false 0]) N d x b1 b2 z1 z2 r := h.frame (fun i hi => get_push (by omega)) (by simp)
  have g0 : (L ++ [LBlk.cells (tokL ⟨0, 0, 0, 0, 0⟩) 29 false 0])[L.length]? = some (.cells (tokL ⟨0, 0, 0, 0, 0⟩) 29 false 0) := get_new
  generalize hc : L.length = c at *
  have hcx : c ≠ x := by have := h.xN; omega
  generalize L ++ [LBlk.cells (tokL ⟨0, 0, 0, 0, 0⟩) 29 false 0] = L0 at *
  have c0 : cell L0 ((Addr.mk d 0 none).add 0) = some (.pointer (some ⟨x, 0, none⟩)) := by rw [mk_add, cell_of h0.at_d]; rfl
  have c1 : cell L0 ((Addr.mk d 0 none).add 1) = some (.pointer (some ⟨b1, 0, none⟩)) := by rw [mk_add, cell_of h0.at_d]; rfl
  obtain ⟨F, f1, f2, f3⟩ := h0.c1
  obtain ⟨L1, a1, a2, a3⟩ := ctake_ok (k := k) f1 m1 h0.br f2 (by omega)
  simp only [obind_some]
  rw [c1, c0]
  simp only [Option.bind_some, asP_pointer, obind_some]
  rw [a1]
  simp only [lbindR_ret, tupL_tuple, uncons_cons, nilL_nil, asI_int, obind_some]
  have hcL : c < L0.length := get_lt g0
  have keep : ∀ {M M' : LHeap} {v : LBlk}, Step [x] M [x] M' → M[c]? = some v → M'[c]? = some v := fun {M M' v} hs hv => by
    rw [hs.keep c (get_lt hv) (by simpa using hcx), hv]
  have setS : ∀ {M : LHeap} {v : LBlk}, Step [c, x] M [c, x] (M.set c v) := fun {M v} => .set _ (by simp)
  have setD : ∀ {M : LHeap} {v : LBlk} {q : List Bool}, DS M N d x b1 b2 z1 z2 q → DS (M.set c v) N d x b1 b2 z1 z2 q := fun {M v q} hd => hd.frame (fun i hi => get_set_ne (by omega)) (by simp)
  have wide : ∀ {M M' : LHeap}, Step [x] M [x] M' → Step [c, x] M [c, x] M' := fun {M M'} hs => Step.wide hs (by simp)
  have out : ∀ {M : LHeap}, Step [x] L [c, x] M → Step [x] L [x] M := fun {M} hs => hs.less fun i hi => .inr hi
  have h1 := h0.step a3 a2
  have g1 := keep a3 g0
  have s1 : Step [x] L [c, x] L1 := s0.trans (wide a3)
  unfold readTok
  generalize hA : decSym (readSym z1 r).1 = A
  generalize hE : decErr (readSym z1 r).1 = E
  match hx : readSym z1 r with
  | (none, r1) =>
    rw [hx] at h1 hE
    have hE : E = 4 := by rw [← hE]; rfl
    rw [hE, show ((4 : Int) != 0) = true from rfl, lif_true]
    exact ⟨L1, _, _, _, r1, tok_end g1, out s1, h1, show (4 : Int) ≠ 0 by decide⟩
  | (some q, r1) =>
    rw [hx] at h1
    obtain ⟨u1, u2, u3⟩ := readSym_some hx
    rw [hx] at hE hA
    have hE : E = 0 := by rw [← hE]; rfl
    have hA : A = (q : Int) := by rw [← hA]; rfl
    subst hA
    rw [hE, show ((0 : Int) != 0) = false from rfl, lif_false]
    simp only
    by_cases q256 : q = 256
    · rw [if_pos q256, show ((q : Int) == 256) = true by simp; omega, lif_true]
      exact ⟨L1, _, _, _, r1, tok_end g1, out s1, h1, rfl, rfl, rfl⟩
    rw [if_neg q256, show ((q : Int) == 256) = false by simp; omega, lif_false]
    by_cases qlt : q < 256
    · rw [if_pos qlt, decide_eq_true (by omega), lif_true, wU8 (by omega) (by omega)]
      have e := (stores_tok g1).2.2.2 ⟨1, (q : Int), 0, 0, 0⟩
      simp only at e
      rw [e]
      simp only [obind_some]
      exact ⟨_, _, _, _, r1, tok_fin (get_set_self g1), out (s1.trans setS), setD h1, rfl, rfl, rfl, rfl⟩
    rw [if_neg qlt, decide_eq_false (by omega), lif_false]
    by_cases q260 : q ≤ 260
    · rw [if_pos q260, decide_eq_true (by omega), lif_true, wI64 (by omega) (by omega)]
      have e := (stores_tok g1).2.2.2 ⟨3, 0, 0, 0, (q : Int) - 257⟩
      simp only at e
      rw [e]
      simp only [obind_some]
      have g2 := get_set_self (x := .cells (tokL ⟨3, 0, 0, 0, (q : Int) - 257⟩) 29 false 0) g1
      have h2 : DS (L1.set c (.cells (tokL ⟨3, 0, 0, 0, (q : Int) - 257⟩) 29 false 0)) N d x b1 b2 z1 z2 r1 := setD h1
      have s2 : Step [x] L [c, x] (L1.set c (.cells (tokL ⟨3, 0, 0, 0, (q : Int) - 257⟩) 29 false 0)) := s1.trans setS
      generalize L1.set c (.cells (tokL ⟨3, 0, 0, 0, (q : Int) - 257⟩) 29 false 0) = L2 at *
      obtain ⟨L3, v, e3, r2, d1, d2, d3, d4⟩ := long_ok (k := k) h2 m2 h9 (by omega)
      rw [d1]
      simp only [lbind_ret, tupL_tuple, uncons_cons, nilL_nil, asI_int, obind_some]
      have g3 := keep d2 g2
      rw [(stores_tok g3).2.1]
      simp only [obind_some]
      refine ⟨_, _, _, _, r2, tok_end (get_set_self g3), out ((s2.trans (wide d2)).trans setS), setD d3, ?_⟩
      match hy : readLen z2 r1 with
      | none => rw [hy] at d4; exact d4
      | some (l, r3) =>
        rw [hy] at d4
        obtain ⟨w1, w2, w3⟩ := d4
        exact ⟨w1, rfl, by rw [w2], w3⟩
    · rw [if_neg q260, decide_eq_false (by omega), lif_false]
      rw [(stores_tok g1).1]
      simp only [obind_some]
      have g2 := get_set_self (x := .cells (tokL { (⟨0, 0, 0, 0, 0⟩ : Tok) with k := 2 }) 29 false 0) g1
      have h2 : DS (L1.set c (.cells (tokL { (⟨0, 0, 0, 0, 0⟩ : Tok) with k := 2 }) 29 false 0)) N d x b1 b2 z1 z2 r1 := setD h1
      have s2 : Step [x] L [c, x] (L1.set c (.cells (tokL { (⟨0, 0, 0, 0, 0⟩ : Tok) with k := 2 }) 29 false 0)) := s1.trans setS
      generalize L1.set c (.cells (tokL { (⟨0, 0, 0, 0, 0⟩ : Tok) with k := 2 }) 29 false 0) = L2 at *
      rw [wI64 (by omega) (by omega), show (q : Int) - 260 = ((q - 260 : Nat) : Int) by omega]
      have hq16 : q - 260 ≤ 32 := by omega
      generalize q - 260 = qq at *
      obtain ⟨L3, v, e3, r2, d1, d2, d3, d4⟩ := number_ok (k := k) (size := qq) h2 hq16 (by omega)
      rw [d1]
      simp only [lbind_ret, tupL_tuple, uncons_cons, nilL_nil, asI_int, obind_some]
      have g3 := keep d2 g2
      rw [(stores_tok g3).2.2.1]
      simp only [obind_some]
      have g4 := get_set_self (x := .cells (tokL ({ ({ (⟨0, 0, 0, 0, 0⟩ : Tok) with k := 2 } : Tok) with d := v } : Tok)) 29 false 0) g3
      have h4 : DS (L3.set c (.cells (tokL ({ ({ (⟨0, 0, 0, 0, 0⟩ : Tok) with k := 2 } : Tok) with d := v } : Tok)) 29 false 0)) N d x b1 b2 z1 z2 r2 := setD d3
      have s4 : Step [x] L [c, x] (L3.set c (.cells (tokL ({ ({ (⟨0, 0, 0, 0, 0⟩ : Tok) with k := 2 } : Tok) with d := v } : Tok)) 29 false 0)) := (s2.trans (wide d2)).trans setS
      generalize L3.set c (.cells (tokL ({ ({ (⟨0, 0, 0, 0, 0⟩ : Tok) with k := 2 } : Tok) with d := v } : Tok)) 29 false 0) = L4 at *
      match hy : readNum qq r1 with
      | none =>
        rw [hy] at d4
        simp only at d4
        rw [show (e3 != 0) = true by simpa using d4, lif_true]
        exact ⟨_, _, _, _, r2, tok_end g4, out s4, h4, d4⟩
      | some (n, r3) =>
        rw [hy] at d4
        obtain ⟨w1, w2, w3, w4⟩ := d4
        rw [show (e3 != 0) = false by simpa using w1, lif_false]
        obtain ⟨L5, v5, e5, r5, p1, p2, p3, p4⟩ := long_ok (k := k) h4 m2 h9 (by omega)
        rw [p1]
        simp only [lbind_ret, tupL_tuple, uncons_cons, nilL_nil, asI_int, obind_some]
        have g5 := keep p2 g4
        rw [(stores_tok g5).2.1]
        simp only [obind_some]
        refine ⟨_, _, _, _, r5, tok_end (get_set_self g5), out ((s4.trans (wide p2)).trans setS), setD p3, ?_⟩
        rw [← w3]
        match hz : readLen z2 r2 with
        | none => rw [hz] at p4; exact p4
        | some (l, r6) =>
          rw [hz] at p4
          obtain ⟨y1, y2, y3⟩ := p4
          exact ⟨y1, rfl, by rw [y2, w2], y3⟩
theorem strOf_bytesL (s : ByteArray) : strOf (bytesL s) = s := by
  apply ByteArray.ext
  apply Array.ext'
  simp [strOf, bytesL, List.map_map]
  conv => rhs; rw [← List.map_id s.data.toList]
  exact List.map_congr_left fun b _ => UInt8.ofNat_toNat
theorem bytesL_strOf {vs : List Nat} (h : ∀ b ∈ vs, b < 256) : bytesL (strOf vs) = vs := by
  simp only [strOf, bytesL, List.map_map]
  conv => rhs; rw [← List.map_id vs]
  refine List.map_congr_left fun b hb => ?_
  have := h b hb
  simp only [Function.comp, id]
  rw [UInt8.toNat_ofNat', Nat.mod_eq_of_lt this]
theorem bytesL_from (s : ByteArray) (u : Nat) : bytesL (s.extract u s.size) = (bytesL s).drop u := by
  unfold bytesL
  rw [ByteArray.data_extract, ← List.map_drop]
  congr 1
  show (s.data.extract u s.data.size).toList = _
  rw [Array.toList_extract, List.extract_eq_take_drop]
  exact List.take_of_length_le (by simp)
theorem strBits_bytesL (s : ByteArray) : strBits (bytesL s) = Rlm.unpack s := by rw [strBits, strOf_bytesL]
/-- Lengths are read, and a coder is made of them. -/
theorem lens_ok {k n : Nat} {s : ByteArray} {L : LHeap} (hn : n ≤ 512) (hs : s.size < 2 ^ 30) (hk : s.size + 700 ≤ k) :
    ∃ L', Step [] L [] L' ∧ match readTab n (bytesL s) [] 0 (-1) true with
      | none => ∃ p q e, f34 k s (n : Int) L = some (.ret (.tuple #[.pointer p, .string q, .int .i64 e]) L') ∧ e ≠ 0
      | some (zs, u) => if may zs = true then ∃ b F, f34 k s (n : Int) L = some (.ret (.tuple #[.pointer (some ⟨b, 0, none⟩), .string (s.extract u s.size), .int .i64 0]) L') ∧ CO L' b zs F
          else ∃ p q e, f34 k s (n : Int) L = some (.ret (.tuple #[.pointer p, .string q, .int .i64 e]) L') ∧ e ≠ 0 := by
  obtain ⟨k, rfl⟩ : ∃ k', k = k' + 1 := ⟨k - 1, by omega⟩
  rw [f34_eq]
  have hr := read_ok (k := k) (n := n) (s := s) (L := L) hn (by omega) (by omega)
  match hx : readTab n (bytesL s) [] 0 (-1) true with
  | none =>
    rw [hx] at hr
    obtain ⟨L1, a1, a2⟩ := hr
    rw [a1]
    exact ⟨L1, a2, _, _, 4, rfl, by decide⟩
  | some (zs, u) =>
    rw [hx] at hr
    obtain ⟨l, L1, F1, a1, a2, a3⟩ := hr
    obtain ⟨_, hu, hz, _⟩ := readTab_used n (bytesL s) [] 0 (-1) true (by simp) hx
    rw [bytesL_length] at hu
    rw [a1]
    simp only [lbind_ret, tupL_tuple, uncons_cons, nilL_nil, asSl_slice, asI_int, obind_some]
    rw [show ((0 : Int) != 0) = false from rfl, lif_false]
    obtain ⟨n1, n2⟩ := new_ok (k := k) a2.ws.rd (by omega) (by omega)
    have hsub : subS s (some (u : Int)) none = some (s.extract u s.size) := by
      simp only [subS, bound_out (Nat.le_refl s.size), bound_at 0 (show u ≤ s.size by omega), Option.bind_eq_bind, Option.bind_some]
    cases hm : may zs with
    | true =>
      obtain ⟨b, F, L2, b1, b2, b3⟩ := n2 hm
      rw [b1]
      simp only [lbind_ret, tupL_tuple, uncons_cons, nilL_nil, asP_pointer, asI_int, obind_some, hsub]
      exact ⟨L2, (a3.less fun i hi => by cases hi).trans (b3.less fun i hi => by cases hi), by rw [if_pos trivial]; exact ⟨b, F, rfl, b2⟩⟩
    | false =>
      obtain ⟨L2, b1, b3⟩ := n1 hm
      rw [b1]
      simp only [lbind_ret, tupL_tuple, uncons_cons, nilL_nil, asP_pointer, asI_int, obind_some, hsub]
      exact ⟨L2, (a3.less fun i hi => by cases hi).trans b3, by rw [if_neg (by decide)]; exact ⟨_, _, 4, rfl, by decide⟩⟩
theorem size29 : Proofs.Try.prog.types[29].size = 5 := by kernel_rfl
theorem bytes29 : Proofs.Try.prog.types[29].bytes = 32 := by kernel_rfl
theorem src_tok {L : LHeap} {a b c d e : Value} {ty : TypeId} {ro : Bool} {sp q : Nat} : srcOf (L ++ [.cells [a, b, c, d, e] ty ro sp]) 5 1 (.slice (some ⟨L.length, 0, none⟩) 1 q) = some [a, b, c, d, e] := by
  simp [srcOf, srcCells, cellsAt]
  rfl
theorem readTok_less {z1 z2 : List Int} {r r' : List Bool} {t : Option Tok} (h : readTok z1 z2 r = some (t, r')) : r'.length < r.length := by
  have key : ∀ {z : List Int} {r r' : List Bool} {i : Nat}, readSym z r = (some i, r') → r'.length < r.length := by
    intro z r r' i h
    obtain ⟨h1, h2, rfl⟩ := readSym_some h
    have := symBits_pos h2
    simp; omega
  have knum : ∀ {n j : Nat} {r r' : List Bool}, readNum n r = some (j, r') → r'.length ≤ r.length := by
    intro n j r r' h
    obtain ⟨rfl, _⟩ := readNum_some h
    simp
  have klen : ∀ {l : Int} {r r' : List Bool}, readLen z2 r = some (l, r') → r'.length ≤ r.length := by
    intro l r r' h
    unfold readLen at h
    match hx : readSym z2 r with
    | (none, _) => rw [hx] at h; cases h
    | (some j, r1) =>
      rw [hx] at h
      simp only at h
      match hy : readNum j r1 with
      | none => rw [hy] at h; cases h
      | some (x, r2) =>
        rw [hy] at h
        injection h with h; injection h with h1 h2; subst h2
        have := key hx; have := knum hy; omega
  unfold readTok at h
  match hx : readSym z1 r with
  | (none, _) => rw [hx] at h; cases h
  | (some k, r1) =>
    rw [hx] at h
    have h1 := key hx
    simp only at h
    split at h
    · injection h with h; injection h with h2 h3; subst h3; exact h1
    · split at h
      · injection h with h; injection h with h2 h3; subst h3; exact h1
      · split at h
        · match hy : readLen z2 r1 with
          | none => rw [hy] at h; cases h
          | some (l, r2) =>
            rw [hy] at h
            injection h with h; injection h with h2 h3; subst h3
            have := klen hy; omega
        · generalize k - 260 = q at h
          match hy : readNum q r1 with
          | none => rw [hy] at h; cases h
          | some (d, r2) =>
            rw [hy] at h
            simp only at h
            match hz : readLen z2 r2 with
            | none => rw [hz] at h; cases h
            | some (l, r3) =>
              rw [hz] at h
              injection h with h; injection h with h2 h3; subst h3
              have := klen hz; have := knum hy; omega
theorem unpack_loop {k N d x b1 b2 : Nat} {z1 z2 : List Int} (m1 : may z1 = true) (m2 : may z2 = true) (h277 : z1.length = 277) (h9 : z2.length = 9) (hk : 100 ≤ k) :
    ∀ (f j : Nat) (l : Sl) (acc : List Tok) (r : List Bool) (Fo : List Nat) (L : LHeap), r.length < f → f ≤ j → DS L N d x b1 b2 z1 z2 r → OZ L l (acc.flatMap tokL) 29 5 Fo → (∀ i ∈ Fo, N ≤ i) → acc.length + f < 2 ^ 30 →
    match readToks z1 z2 f r acc with
    | none => ∃ L', f19_l9 k j d l L = some (.ret (.tuple #[.slice none 0 0, .int .i64 4]) L') ∧ Step (x :: Fo) L [] L'
    | some ts => ∃ l' L' F', f19_l9 k j d l L = some (.ret (.tuple #[.slice l'.a l'.n l'.c, .int .i64 0]) L') ∧ OZ L' l' (ts.flatMap tokL) 29 5 F' ∧ Step (x :: Fo) L F' L' ∧ ∀ i ∈ F', N ≤ i := by
  intro f
  induction f with
  | zero => intro j l acc r Fo L hr; omega
  | succ f ih =>
    intro j l acc r Fo L hr hj h hO hF hlen
    obtain ⟨j, rfl⟩ : ∃ j', j = j' + 1 := ⟨j - 1, by omega⟩
    obtain ⟨L1, t, b, e, r1, a1, a2, a3, a4⟩ := next_ok (k := k) h m1 m2 h277 h9 (by omega)
    rw [f19_l9_eq, a1]
    simp only [lbind_ret, tupL_tuple, uncons_cons, nilL_nil, asI_int, asB_bool, obind_some]
    rw [show aggL (List.length ([Leaf.i IntKind.u8] ++ ([Leaf.i IntKind.u8] ++ ([Leaf.i IntKind.i64] ++ ([Leaf.i IntKind.i64] ++ ([Leaf.i IntKind.i64] ++ [])))))) (.agg #[.int .u8 t.k, .int .u8 t.b, .int .i64 t.l, .int .i64 t.d, .int .i64 t.s]) = some [.int .u8 t.k, .int .u8 t.b, .int .i64 t.l, .int .i64 t.d, .int .i64 t.s] from rfl]
    simp only [uncons_cons, nilL_nil, asI_int, obind_some]
    rw [stores_new (by rfl)]
    simp only [obind_some]
    have hx : L1 ++ [LBlk.cells [Value.int .u8 t.k, Value.int .u8 t.b, Value.int .i64 t.l, Value.int .i64 t.d, Value.int .i64 t.s] 29 false 0] = L1 ++ [LBlk.cells (tokL t) 29 false 0] := rfl
    rw [hx]
    have g0 : (L1 ++ [LBlk.cells (tokL t) 29 false 0])[L1.length]? = some (.cells (tokL t) 29 false 0) := get_new
    have hO1 := hO.mono (a2.others hO.within fun i hi hf => by simp at hi; subst hi; have := hF _ hf; have := h.xN; omega)
    have hO2 : OZ (L1 ++ [LBlk.cells (tokL t) 29 false 0]) l (acc.flatMap tokL) 29 5 Fo := hO1.mono fun i hi => get_push (hO1.within i hi)
    have h2 : DS (L1 ++ [LBlk.cells (tokL t) 29 false 0]) N d x b1 b2 z1 z2 r1 := a3.frame (fun i hi => get_push (by have := a3.NL; omega)) (by simp)
    have st2 : Step (x :: Fo) L (x :: Fo) (L1 ++ [LBlk.cells (tokL t) 29 false 0]) := (Step.wide a2 (by simp)).trans (.push _ _ _)
    have hlt : L1.length < (L1 ++ [LBlk.cells (tokL t) 29 false 0]).length := by simp
    generalize L1 ++ [LBlk.cells (tokL t) 29 false 0] = L2 at *
    have stN : Step (x :: Fo) L [] L2 := st2.less fun i hi => by cases hi
    unfold readToks
    match hy : readTok z1 z2 r with
    | none =>
      rw [hy] at a4
      simp only at a4 ⊢
      rw [show (e != 0) = true by simpa using a4, lif_true]
      exact ⟨L2, rfl, stN⟩
    | some (none, r2) =>
      rw [hy] at a4
      obtain ⟨rfl, rfl, rfl⟩ := a4
      simp only
      rw [show ((0 : Int) != 0) = false from rfl, lif_false, Bool.not_false, lif_true]
      have c0 : cell L2 ((Addr.mk d 0 none).add 0) = some (.pointer (some ⟨x, 0, none⟩)) := by rw [mk_add, cell_of h2.at_d]; rfl
      rw [c0]
      simp only [Option.bind_some, asP_pointer, obind_some]
      rw [end_ok h2.br (by omega)]
      simp only [lbind_ret, asB_bool, obind_some]
      have he : endOf r1 = endOk r1 := rfl
      rw [he]
      cases hend : endOk r1 with
      | true =>
        simp only [if_true]
        rw [Bool.not_true, lif_false, lif_true]
        exact ⟨l, L2, Fo, rfl, hO2, st2.less (fun i hi => .inl (by simp [hi])), hF⟩
      | false =>
        simp only [Bool.false_eq_true, if_false]
        rw [Bool.not_false, lif_true]
        exact ⟨L2, rfl, stN⟩
    | some (some u, r2) =>
      rw [hy] at a4
      obtain ⟨rfl, rfl, rfl, rfl⟩ := a4
      have hless := readTok_less hy
      simp only
      rw [show ((0 : Int) != 0) = false from rfl, lif_false, Bool.not_true, lif_false, lif_false]
      obtain ⟨e0, e1, e2, e3, e4⟩ := tok_cell g0
      rw [e0]; simp only [Option.bind_some, asI_int, obind_some]
      rw [e1]; simp only [Option.bind_some, asI_int, obind_some]
      rw [e2]; simp only [Option.bind_some, asI_int, obind_some]
      rw [e3]; simp only [Option.bind_some, asI_int, obind_some]
      rw [e4]; simp only [Option.bind_some, asI_int, obind_some]
      rw [shape_ok (by omega)]
      simp only [lbind_ret, asB_bool, obind_some]
      have g3 : (L2 ++ [LBlk.cells (tokL t) 29 false 0])[L1.length]? = some (.cells (tokL t) 29 false 0) := by rw [get_push hlt, g0]
      have hO3 : OZ (L2 ++ [LBlk.cells (tokL t) 29 false 0]) l (acc.flatMap tokL) 29 5 Fo := hO2.mono fun i hi => get_push (hO2.within i hi)
      have h3 : DS (L2 ++ [LBlk.cells (tokL t) 29 false 0]) N d x b1 b2 z1 z2 r1 := h2.frame (fun i hi => get_push (by have := h2.NL; omega)) (by simp)
      have st3 : Step (x :: Fo) L (x :: Fo) (L2 ++ [LBlk.cells (tokL t) 29 false 0]) := st2.trans (.push _ _ _)
      generalize L2 ++ [LBlk.cells (tokL t) 29 false 0] = L3 at *
      cases hsh : tokShape t with
      | false =>
        simp only [Bool.false_eq_true, if_false]
        rw [Bool.not_false, lif_true]
        exact ⟨L3, rfl, st3.less fun i hi => by cases hi⟩
      | true =>
        simp only [if_true]
        rw [Bool.not_true, lif_false]
        obtain ⟨e0, e1, e2, e3, e4⟩ := tok_cell g3
        rw [e0]; simp only [Option.bind_some, asI_int, obind_some]
        rw [e1]; simp only [Option.bind_some, asI_int, obind_some]
        rw [e2]; simp only [Option.bind_some, asI_int, obind_some]
        rw [e3]; simp only [Option.bind_some, asI_int, obind_some]
        rw [e4]; simp only [Option.bind_some, asI_int, obind_some]
        rw [size29, bytes29, src_tok]
        simp only [obind_some]
        have hO4 : OZ (L3 ++ [LBlk.cells [Value.int .u8 t.k, Value.int .u8 t.b, Value.int .i64 t.l, Value.int .i64 t.d, Value.int .i64 t.s] 29 false 0]) l (acc.flatMap tokL) 29 5 Fo := hO3.mono fun i hi => get_push (hO3.within i hi)
        have h4 : DS (L3 ++ [LBlk.cells [Value.int .u8 t.k, Value.int .u8 t.b, Value.int .i64 t.l, Value.int .i64 t.d, Value.int .i64 t.s] 29 false 0]) N d x b1 b2 z1 z2 r1 := h3.frame (fun i hi => get_push (by have := h3.NL; omega)) (by simp)
        have st4 : Step (x :: Fo) L (x :: Fo) (L3 ++ [LBlk.cells [Value.int .u8 t.k, Value.int .u8 t.b, Value.int .i64 t.l, Value.int .i64 t.d, Value.int .i64 t.s] 29 false 0]) := st3.trans (.push _ _ _)
        generalize L3 ++ [LBlk.cells [Value.int .u8 t.k, Value.int .u8 t.b, Value.int .i64 t.l, Value.int .i64 t.d, Value.int .i64 t.s] 29 false 0] = L4 at *
        have hn := (OZ.rt hO4).len
        obtain ⟨s', L5, F5, p1, p2, p3, p4⟩ := hO4.app [.int .u8 t.k, .int .u8 t.b, .int .i64 t.l, .int .i64 t.d, .int .i64 t.s] 1 32 (by omega) (by rfl) (by omega) (by omega)
        rw [p1]
        simp only [obind_some]
        have hFl : ∀ i ∈ F5, N ≤ i := fun i hi => by
          rcases p4.foot i hi with q | q
          · exact hF i q
          · have := h4.NL; omega
        have h5 : DS L5 N d x b1 b2 z1 z2 r1 := h4.frame (fun i hi => p4.keep i (by have := h4.NL; omega) fun hf => by have := hF i hf; omega) p4.len
        have hcat : acc.flatMap tokL ++ [.int .u8 t.k, .int .u8 t.b, .int .i64 t.l, .int .i64 t.d, .int .i64 t.s] = (acc ++ [t]).flatMap tokL := by simp [tokL]
        rw [hcat] at p2
        have st5 : Step (x :: Fo) L (x :: F5) L5 := st4.trans ⟨p4.len, fun i hi hn => p4.keep i hi fun hf => hn (by simp [hf]), fun i hi => by
          rcases List.mem_cons.1 hi with rfl | hi
          · exact .inl (by simp)
          · rcases p4.foot i hi with q | q
            · exact .inl (by simp [q])
            · exact .inr q⟩
        have := ih j s' (acc ++ [t]) r1 F5 L5 (by omega) (by omega) h5 p2 hFl (by simp; omega)
        match hz : readToks z1 z2 f r1 (acc ++ [t]) with
        | none =>
          rw [hz] at this
          obtain ⟨L6, q1, q2⟩ := this
          exact ⟨L6, q1, st5.trans q2⟩
        | some ts =>
          rw [hz] at this
          obtain ⟨l6, L6, F6, q1, q2, q3, q4⟩ := this
          exact ⟨l6, L6, F6, q1, q2, st5.trans q3, q4⟩
/-- **Unpack.** -/
theorem unpack_ok {k : Nat} {s : ByteArray} {L : LHeap} (hs : s.size < 2 ^ 25) (hk : 8 * s.size + 900 ≤ k) :
    match unpackB (bytesL s) with
    | none => ∃ L', f19 k s L = some (.ret (.tuple #[.slice none 0 0, .int .i64 4]) L') ∧ Step [] L [] L'
    | some ts => ∃ l' L' F', f19 k s L = some (.ret (.tuple #[.slice l'.a l'.n l'.c, .int .i64 0]) L') ∧ OZ L' l' (ts.flatMap tokL) 29 5 F' ∧ Step [] L F' L' := by
  obtain ⟨k, rfl⟩ : ∃ k', k = k' + 1 := ⟨k - 1, by omega⟩
  rw [f19_eq]
  obtain ⟨L1, s1, a1⟩ := lens_ok (k := k) (n := 277) (s := s) (L := L) (by omega) (by omega) (by omega)
  have e277 : (277 : Int) = ((277 : Nat) : Int) := rfl
  have e9 : (9 : Int) = ((9 : Nat) : Int) := rfl
  unfold unpackB unpackS
  match hx : readTab 277 (bytesL s) [] 0 (-1) true with
  | none =>
    rw [hx] at a1
    obtain ⟨p, q, e, a2, a3⟩ := a1
    rw [e277, a2]
    simp only [lbind_ret, tupL_tuple, uncons_cons, nilL_nil, asP_pointer, asS_string, asI_int, obind_some]
    rw [show (e != 0) = true by simpa using a3, lif_true]
    exact ⟨L1, rfl, s1⟩
  | some (z1, u) =>
    rw [hx] at a1
    simp only at a1 ⊢
    obtain ⟨_, hu, hz1, _⟩ := readTab_used 277 (bytesL s) [] 0 (-1) true (by simp) hx
    rw [bytesL_length] at hu
    cases m1 : may z1 with
    | false =>
      rw [m1, if_neg (by decide)] at a1
      obtain ⟨p, q, e, a2, a3⟩ := a1
      rw [e277, a2]
      simp only [lbind_ret, tupL_tuple, uncons_cons, nilL_nil, asP_pointer, asS_string, asI_int, obind_some, Bool.false_eq_true, if_false]
      rw [show (e != 0) = true by simpa using a3, lif_true]
      exact ⟨L1, rfl, s1⟩
    | true =>
      rw [m1, if_pos rfl] at a1
      obtain ⟨b1, F1, a2, a3⟩ := a1
      rw [e277, a2]
      simp only [lbind_ret, tupL_tuple, uncons_cons, nilL_nil, asP_pointer, asS_string, asI_int, obind_some, if_true]
      rw [show ((0 : Int) != 0) = false from rfl, lif_false]
      have hsz : (s.extract u s.size).size = s.size - u := by rw [ByteArray.size_extract]; omega
      obtain ⟨L2, s2, b⟩ := lens_ok (k := k) (n := 9) (s := s.extract u s.size) (L := L1) (by omega) (by omega) (by omega)
      rw [bytesL_from] at b
      rw [e9]
      match hy : readTab 9 ((bytesL s).drop u) [] 0 (-1) true with
      | none =>
        rw [hy] at b
        obtain ⟨p, q, e, c2, c3⟩ := b
        rw [c2]
        simp only [lbind_ret, tupL_tuple, uncons_cons, nilL_nil, asP_pointer, asS_string, asI_int, obind_some]
        rw [show (e != 0) = true by simpa using c3, lif_true]
        exact ⟨L2, rfl, s1.trans s2⟩
      | some (z2, v) =>
        rw [hy] at b
        simp only at b ⊢
        obtain ⟨_, hv, hz2, _⟩ := readTab_used 9 ((bytesL s).drop u) [] 0 (-1) true (by simp) hy
        cases m2 : may z2 with
        | false =>
          rw [m2, if_neg (by decide)] at b
          obtain ⟨p, q, e, c2, c3⟩ := b
          rw [c2]
          simp only [lbind_ret, tupL_tuple, uncons_cons, nilL_nil, asP_pointer, asS_string, asI_int, obind_some, Bool.false_eq_true, if_false]
          rw [show (e != 0) = true by simpa using c3, lif_true]
          exact ⟨L2, rfl, s1.trans s2⟩
        | true =>
          rw [m2, if_pos rfl] at b
          obtain ⟨b2, F2, c2, c3⟩ := b
          rw [c2]
          simp only [lbind_ret, tupL_tuple, uncons_cons, nilL_nil, asP_pointer, asS_string, asI_int, obind_some, if_true]
          rw [show ((0 : Int) != 0) = false from rfl, lif_false]
          have hbits : Rlm.unpack ((s.extract u s.size).extract v (s.extract u s.size).size) = strBits (((bytesL s).drop u).drop v) := by
            rw [← strBits_bytesL, bytesL_from, bytesL_from]
          generalize hs3 : (s.extract u s.size).extract v (s.extract u s.size).size = s3 at *
          have hsz3 : s3.size ≤ s.size := by rw [← hs3, ByteArray.size_extract, hsz]; omega
          obtain ⟨L3, o1, o2, o3⟩ := open_ok (k := k) (s := s3) (L := L2) (by omega) (by omega)
          rw [o1]
          simp only [lbind_ret, asP_pointer, obind_some]
          have cO1 : CO L2 b1 z1 F1 := a3.mono (s2.others a3.within fun _ h => by cases h) s2.len
          have c1' : CO L3 b1 z1 F1 := cO1.mono (o3.others cO1.within fun _ h => by cases h) o3.len
          have c2' : CO L3 b2 z2 F2 := c3.mono (o3.others c3.within fun _ h => by cases h) o3.len
          have hlt3 : L2.length < L3.length := o2.lt
          have st4 : Step [L2.length] L3 [L2.length] (L3 ++ [LBlk.cells [Value.pointer (some ⟨L2.length, 0, none⟩), Value.pointer (some ⟨b1, 0, none⟩), Value.pointer (some ⟨b2, 0, none⟩)] 65 false 0]) := .push _ _ _
          have hds : DS (L3 ++ [LBlk.cells [Value.pointer (some ⟨L2.length, 0, none⟩), Value.pointer (some ⟨b1, 0, none⟩), Value.pointer (some ⟨b2, 0, none⟩)] 65 false 0]) (L3.length + 1) L3.length L2.length b1 b2 z1 z2 (Rlm.unpack s3) := by
            refine ⟨get_new, o2.mono (get_push hlt3), ⟨F1, c1'.mono (fun i hi => get_push (c1'.within i hi)) (by simp), ?_, fun i hi => by have := c1'.within i hi; omega⟩, ⟨F2, c2'.mono (fun i hi => get_push (c2'.within i hi)) (by simp), ?_, fun i hi => by have := c2'.within i hi; omega⟩, by omega, by omega, by omega, by simp⟩
            · intro hf; have := cO1.within _ hf; omega
            · intro hf; have := c3.within _ hf; omega
          have hul : (Rlm.unpack s3).length = 8 * s3.size := unpack_length _
          have := unpack_loop (k := k) (N := L3.length + 1) (d := L3.length) (x := L2.length) (b1 := b1) (b2 := b2) m1 m2 hz1 hz2 (by omega) (8 * (bytesL s).length + 1) k ⟨none, 0, 0⟩ [] (Rlm.unpack s3) [] _ (by rw [hul, bytesL_length]; omega) (by rw [bytesL_length]; omega) hds (OZ.nil _ _ (by omega)) (fun i hi => by cases hi) (by rw [bytesL_length]; simp; omega)
          rw [hbits] at this
          match hz : readToks z1 z2 (8 * (bytesL s).length + 1) (strBits (((bytesL s).drop u).drop v)) [] with
          | none =>
            rw [hz] at this
            obtain ⟨L5, q1, q2⟩ := this
            refine ⟨L5, q1, (((s1.trans s2).trans o3).trans st4).trans q2⟩
          | some ts =>
            rw [hz] at this
            obtain ⟨l5, L5, F5, q1, q2, q3, q4⟩ := this
            exact ⟨l5, L5, F5, q1, q2, (((s1.trans s2).trans o3).trans st4).trans q3⟩
end Go.Proofs.Ytflhogapjmdkaaa.X
end

section
set_option maxRecDepth 100000
set_option linter.unusedVariables false
namespace Go.Proofs.Ytflhogapjmdkaaa.X
open Go Go.Rlm
theorem RT.lit {L : LHeap} {ts : List Tok} {n sp : Nat} {ro : Bool} (hn : n = ts.length) : RT (L ++ [.cells (ts.flatMap tokL) 29 ro sp]) ⟨some ⟨L.length, 0, none⟩, n, n⟩ ts [L.length] :=
  ⟨hn, .inr ⟨L.length, 0, _, 29, ro, sp, rfl, get_new, fun i t ht j v hv => by rw [Nat.zero_add]; exact tokL_get ht hv, rfl⟩⟩
/-- Tokens that can be packed: what comes of it. -/
theorem packStr_ok {ts : List Tok} (h : ∀ t ∈ ts, tokShape t = true) : packStr ts = strOf (packB ts) ∧ packErr ts = 0 := by
  have : ts.all tokShape = true := by simpa using h
  unfold packStr packErr
  rw [this]
  exact ⟨rfl, rfl⟩
/-- Unpack of Pack. -/
theorem back_ok {k : Nat} {ts : List Tok} {L : LHeap} (hf : Fit ts) (h : ∀ t ∈ ts, tokShape t = true) (hk : 56 * ts.length + 4000 ≤ k) :
    ∃ l' L' F', f19 k (packStr ts) L = some (.ret (.tuple #[.slice l'.a l'.n l'.c, .int .i64 0]) L') ∧ OZ L' l' (ts.flatMap tokL) 29 5 F' ∧ Step [] L F' L' := by
  have hsz := packB_le hf.1 h
  have hlen := hf.1
  have := unpack_ok (k := k) (s := strOf (packB ts)) (L := L) (by rw [strOf_size]; omega) (by rw [strOf_size]; omega)
  rw [bytesL_strOf (packB_small hf.1), unpack_pack hf h] at this
  rw [(packStr_ok h).1]
  exact this
theorem last0 : (packB [])[(packB []).length - 1]? = some 0 := by kernel_rfl
theorem byteAt_last : byteAt (strOf (packB [])) (IntKind.wrap .i64 (((strOf (packB [])).size : Int) - 1)) = some 0 := by
  have h1 := packB_ge [] (by simp)
  have h2 := packB_le (ts := []) (by simp) (fun t ht => by cases ht)
  simp only [List.length_nil] at h2
  rw [strOf_size, wI64 (by omega) (by omega), show ((packB []).length : Int) - 1 = (((packB []).length - 1 : Nat) : Int) by omega]
  obtain ⟨b, b1, b2, b3⟩ := bytesL_at (s := strOf (packB [])) (i := (packB []).length - 1) (by rw [strOf_size]; omega)
  rw [bytesL_strOf (packB_small (by simp)), last0] at b1
  injection b1 with b1
  rw [b2, ← b1]
  rfl
def ts3 : List Tok := [⟨1, 97, 0, 0, 0⟩, ⟨2, 0, 258, 1, 0⟩, ⟨3, 0, 3, 0, 3⟩]
theorem ts3_ok : Fit ts3 ∧ ∀ t ∈ ts3, tokShape t = true := by
  refine ⟨⟨by decide, fun t ht => ?_⟩, fun t ht => ?_⟩
  · simp only [ts3, List.mem_cons, List.mem_nil_iff, or_false] at ht
    rcases ht with rfl | rfl | rfl <;> exact ⟨⟨by decide, by decide⟩, ⟨by decide, by decide⟩⟩
  · simp only [ts3, List.mem_cons, List.mem_nil_iff, or_false] at ht
    rcases ht with rfl | rfl | rfl <;> decide
def ts9 : List Tok := [⟨9, 0, 0, 0, 0⟩]
theorem awake_ok {k : Nat} {L : LHeap} (hk : 5000 ≤ k) : ∃ L', f13 k L = some (.ret (.bool true) L') ∧ Step [] L [] L' := by
  obtain ⟨k, rfl⟩ : ∃ k', k = k' + 1 := ⟨k - 1, by omega⟩
  rw [f13_eq]
  have hf3 := ts3_ok
  have nil_ok : Fit [] ∧ ∀ t ∈ ([] : List Tok), tokShape t = true := ⟨⟨by decide, fun t ht => by cases ht⟩, fun t ht => by cases ht⟩
  have l3 : RT (L ++ [.cells (ts3.flatMap tokL) 29 false 0]) ⟨some ⟨L.length, 0, none⟩, 3, 3⟩ ts3 [L.length] := RT.lit rfl
  have s0 : Step [] L [] (L ++ [.cells (ts3.flatMap tokL) 29 false 0]) := .push _ _ _
  have hx : [LBlk.cells
          [Value.int IntKind.u8 1, Value.int IntKind.u8 97, Value.int IntKind.i64 0, Value.int IntKind.i64 0, Value.int IntKind.i64 0, Value.int IntKind.u8 2, Value.int IntKind.u8 0,
            Value.int IntKind.i64 258, Value.int IntKind.i64 1, Value.int IntKind.i64 0, Value.int IntKind.u8 3, Value.int IntKind.u8 0, Value.int IntKind.i64 3, Value.int IntKind.i64 0,
            Value.int IntKind.i64 3]
          29 false 0] = [.cells (ts3.flatMap tokL) 29 false 0] := rfl
  rw [hx]
  generalize L ++ [.cells (ts3.flatMap tokL) 29 false 0] = L0 at *
  obtain ⟨L1, a1, a2⟩ := pack_ok (k := k) l3 hf3.1 (by simp only [ts3, List.length_cons, List.length_nil]; omega)
  have l3a := l3.mono (a2.others l3.within (fun i hi => by cases hi))
  rw [a1]
  simp only [lbind_ret, tupL_tuple, uncons_cons, nilL_nil, asS_string, asI_int, obind_some]
  obtain ⟨m1, L2, F2, b1, b2, b3⟩ := back_ok (k := k) (L := L1) hf3.1 hf3.2 (by simp only [ts3, List.length_cons, List.length_nil]; omega)
  have l3b := l3a.mono (b3.others l3a.within (fun i hi => by cases hi))
  rw [b1]
  simp only [lbind_ret, tupL_tuple, uncons_cons, nilL_nil, asSl_slice, asI_int, obind_some]
  obtain ⟨L3, c1, c2⟩ := pack_ok (k := k) (L := L2) (l := ⟨none, 0, 0⟩) (ts := []) (A := []) ⟨rfl, .inl ⟨rfl, rfl⟩⟩ nil_ok.1 (by simp; omega)
  have l3c := l3b.mono (c2.others l3b.within (fun i hi => by cases hi))
  have b2c := b2.mono (c2.others b2.within (fun i hi => by cases hi))
  rw [c1]
  simp only [lbind_ret, tupL_tuple, uncons_cons, nilL_nil, asS_string, asI_int, obind_some]
  obtain ⟨m2, L4, F4, d1, d2, d3⟩ := back_ok (k := k) (L := L3) nil_ok.1 nil_ok.2 (by simp; omega)
  have l3d := l3c.mono (d3.others l3c.within (fun i hi => by cases hi))
  have b2d := b2c.mono (d3.others b2c.within (fun i hi => by cases hi))
  have hm2 := (OZ.rt d2).len
  rw [d1]
  simp only [lbind_ret, tupL_tuple, uncons_cons, nilL_nil, asSl_slice, asI_int, obind_some]
  have e := unpack_ok (k := k) (s := ByteArray.mk #[]) (L := L4) (by decide) (by show 8 * 0 + 900 ≤ k; omega)
  rw [show unpackB (bytesL (ByteArray.mk #[])) = none from rfl] at e
  obtain ⟨L5, e1, e2⟩ := e
  have l3e := l3d.mono (e2.others l3d.within (fun i hi => by cases hi))
  have b2e := b2d.mono (e2.others b2d.within (fun i hi => by cases hi))
  rw [e1]
  simp only [lbind_ret, tupL_tuple, uncons_cons, nilL_nil, asSl_slice, asI_int, obind_some]
  have l9 : RT (L5 ++ [.cells (ts9.flatMap tokL) 29 false 0]) ⟨some ⟨L5.length, 0, none⟩, 1, 1⟩ ts9 [L5.length] := RT.lit rfl
  have s5 : Step [] L5 [] (L5 ++ [.cells (ts9.flatMap tokL) 29 false 0]) := .push _ _ _
  have hy : [LBlk.cells [Value.int IntKind.u8 9, Value.int IntKind.u8 0, Value.int IntKind.i64 0, Value.int IntKind.i64 0, Value.int IntKind.i64 0] 29 false 0] = [.cells (ts9.flatMap tokL) 29 false 0] := rfl
  rw [hy]
  generalize L5 ++ [.cells (ts9.flatMap tokL) 29 false 0] = L6 at *
  have l3f := l3e.mono (s5.others l3e.within (fun i hi => by cases hi))
  have b2f := b2e.mono (s5.others b2e.within (fun i hi => by cases hi))
  obtain ⟨L7, g1, g2⟩ := pack_ok (k := k) l9 ⟨by decide, fun t ht => by
    simp only [ts9, List.mem_cons, List.mem_nil_iff, or_false] at ht
    subst ht; exact ⟨⟨by decide, by decide⟩, ⟨by decide, by decide⟩⟩⟩ (by simp only [ts9, List.length_cons, List.length_nil]; omega)
  have l3g := l3f.mono (g2.others l3f.within (fun i hi => by cases hi))
  have b2g := b2f.mono (g2.others b2f.within (fun i hi => by cases hi))
  rw [g1]
  simp only [lbind_ret, tupL_tuple, uncons_cons, nilL_nil, asS_string, asI_int, obind_some]
  have hs := same_ok (k := k) l3g (OZ.rt b2g) (by decide) (by decide) (by simp only [ts3, List.length_cons, List.length_nil]; omega)
  rw [hs]
  have e3 := packStr_ok hf3.2
  have e0 := packStr_ok nil_ok.2
  have e9 : packErr ts9 = 4 := by decide
  rw [e3.2, e0.2, e9, e0.1]
  simp only [lbind_ret, asB_bool, obind_some, byteAt_last, decide_true]
  rw [hm2]
  refine ⟨L7, rfl, ?_⟩
  exact ((((((s0.trans a2).trans (b3.less fun i hi => by cases hi)).trans c2).trans (d3.less fun i hi => by cases hi)).trans e2).trans s5).trans g2
end Go.Proofs.Ytflhogapjmdkaaa.X
end

section
set_option maxRecDepth 100000
set_option linter.unusedVariables false
namespace Go.Proofs.Ytflhogapjmdkaaa.X
open Go Go.Rlm
/-- The reference's reader: at r, of a text; what is left. -/
def RSt (L : LHeap) (r : Nat) (rest : List Bool) : Prop :=
  ∃ (all : List Bool) (n : Nat), L[r]? = some (.cells [.string (txt all), .int .i64 (n : Int)] 73 false 0) ∧ n ≤ all.length ∧ all.length < 2 ^ 36 ∧ rest = all.drop n
theorem RSt.mono {L L' : LHeap} {r : Nat} {rest : List Bool} (h : RSt L r rest) (hk : L'[r]? = L[r]?) : RSt L' r rest := by
  obtain ⟨all, n, h1, h2, h3, h4⟩ := h
  exact ⟨all, n, by rw [hk, h1], h2, h3, h4⟩
theorem RSt.lt {L : LHeap} {r : Nat} {rest : List Bool} (h : RSt L r rest) : r < L.length := by
  obtain ⟨all, n, h1, h2, h3, h4⟩ := h
  exact get_lt h1
theorem txt_at {all : List Bool} {i : Nat} (h : i < all.length) : byteAt (txt all) (i : Int) = some (if all[i] then 49 else 48) := by
  have : (txt all).data.toList[i]? = some (if all[i] then (49 : UInt8) else 48) := by simp [txt, h]
  rw [byteAt_get this]
  cases all[i] <;> rfl
theorem rsym_ok {k r : Nat} {l : Sl} {zs : List Int} {A : List Nat} {rest : List Bool} {L : LHeap} (h : RSt L r rest) (hl : Rd L l (zs.map iV) A) (hm : may zs = true) (hk : 700 ≤ k) :
    ∃ L' v b rest', f40 k (some ⟨r, 0, none⟩) l L = some (.ret (.tuple #[.int .i64 v, .bool b]) L') ∧ Step [r] L [r] L' ∧ RSt L' r rest' ∧
      (match readSym zs rest with | (none, _) => b = false | (some i, q) => b = true ∧ v = (i : Int) ∧ rest' = q) := by
  obtain ⟨k, rfl⟩ : ∃ k', k = k' + 1 := ⟨k - 1, by omega⟩
  obtain ⟨all, n, h1, h2, h3, rfl⟩ := h
  have c0 : cell L ((Addr.mk r 0 none).add 0) = some (.string (txt all)) := by rw [mk_add, cell_of h1]; rfl
  have c1 : cell L ((Addr.mk r 0 none).add 1) = some (.int .i64 (n : Int)) := by rw [mk_add, cell_of h1]; rfl
  have h512 := (may_ok hm).2.1
  obtain ⟨L1, a1, a2⟩ := rtake47_ok (k := k) hm hl h2 (by omega) (by omega)
  have h1' : L1[r]? = some (.cells [.string (txt all), .int .i64 (n : Int)] 73 false 0) := by rw [a2.keep r (get_lt h1) (by simp), h1]
  rw [f40_eq]
  simp only [obind_some]
  rw [c0]
  simp only [Option.bind_some, asS_string, obind_some]
  rw [c1]
  simp only [Option.bind_some, asI_int, obind_some]
  rw [a1]
  simp only [lbindR_ret]
  have sX : ∀ x : LBlk, Step [r] L [r] (L1.set r x) := fun x => (Step.wide a2 (by simp)).trans (.set _ (by simp))
  match hx : readSym zs (all.drop n) with
  | (none, q) =>
    simp only [takenRef, tupL_tuple, uncons_cons, nilL_nil, asI_int, asB_bool, obind_some]
    rw [mk_add, stores_of h1' (by simp)]
    simp only [obind_some]
    refine ⟨_, _, _, all.drop n, rfl, sX _, ⟨all, n, by rw [get_set_self h1']; rfl, h2, h3, rfl⟩, rfl⟩
  | (some i, q) =>
    obtain ⟨g1, g2, g3⟩ := readSym_some hx
    have hzi : zs.getD i 0 ≤ 15 := by
      rw [List.getD_eq_getElem?_getD, List.getElem?_eq_getElem g1]
      exact (okLen_mem (may_ok hm).1 (List.getElem_mem g1)).2
    have hlen := congrArg List.length g3
    simp only [List.length_drop, List.length_append, symBits, bitsOf_length] at hlen
    have he : (n : Int) + zs.getD i 0 = ((n + (zs.getD i 0).toNat : Nat) : Int) := by omega
    simp only [takenRef, tupL_tuple, uncons_cons, nilL_nil, asI_int, asB_bool, obind_some]
    rw [mk_add, stores_of h1' (by simp)]
    simp only [obind_some]
    refine ⟨_, _, _, q, rfl, sX _, ⟨all, n + (zs.getD i 0).toNat, by rw [get_set_self h1', ← he]; rfl, by omega, h3, ?_⟩, rfl, rfl, rfl⟩
    rw [← List.drop_drop, g3, List.drop_left' (by simp [symBits])]
theorem rnum_loop {k r size : Nat} (hs : size ≤ 32) : ∀ (m i j : Nat) (a rest : List Bool) (L : LHeap), i + m = size → m < j → 0 < i → a.length = i - 1 → RSt L r rest →
    ∃ L' v b rest', f41_l5 k j (some ⟨r, 0, none⟩) (size : Int) ((2 ^ (i - 1) + bitNum a : Nat) : Int) (i : Int) L = some (.ret (.tuple #[.int .i64 v, .bool b]) L') ∧ Step [r] L [r] L' ∧ RSt L' r rest' ∧
      (if rest.length < m then b = false else b = true ∧ v = ((2 ^ (size - 1) + bitNum (a ++ rest.take m) : Nat) : Int) ∧ rest' = rest.drop m) := by
  intro m
  induction m with
  | zero =>
    intro i j a rest L hi hj h0 ha h
    obtain ⟨j, rfl⟩ : ∃ j', j = j' + 1 := ⟨j - 1, by omega⟩
    rw [f41_l5_eq, decide_eq_false (by omega), lif_false]
    refine ⟨L, _, _, rest, rfl, .refl _ _, h, ?_⟩
    rw [if_neg (by omega)]
    exact ⟨rfl, by simp; rw [show i = size by omega], by simp⟩
  | succ m ih =>
    intro i j a rest L hi hj h0 ha h
    obtain ⟨j, rfl⟩ : ∃ j', j = j' + 1 := ⟨j - 1, by omega⟩
    obtain ⟨all, n, h1, h2, h3, rfl⟩ := h
    have c0 : cell L ((Addr.mk r 0 none).add 0) = some (.string (txt all)) := by rw [mk_add, cell_of h1]; rfl
    have c1 : cell L ((Addr.mk r 0 none).add 1) = some (.int .i64 (n : Int)) := by rw [mk_add, cell_of h1]; rfl
    rw [f41_l5_eq, decide_eq_true (by omega), lif_true]
    simp only [obind_some]
    rw [c1]
    simp only [Option.bind_some, asI_int, obind_some]
    rw [c0]
    simp only [Option.bind_some, asS_string, obind_some, txt_size]
    by_cases hn : n < all.length
    · rw [decide_eq_false (by omega), lif_false]
      rw [txt_at hn]
      simp only [obind_some]
      have hd : all.drop n = all[n] :: all.drop (n + 1) := List.drop_eq_getElem_cons hn
      have hb := bitNum_lt a
      rw [ha] at hb
      have hp : 2 ^ (i - 1) ≤ 2 ^ 31 := Nat.pow_le_pow_right (by omega) (by omega)
      have hp2 : 2 ^ (i + 1 - 1) = 2 * 2 ^ (i - 1) := by rw [show i + 1 - 1 = (i - 1) + 1 by omega, Nat.pow_succ]; omega
      have h1s : (L.set r (.cells [.string (txt all), .int .i64 ((n + 1 : Nat) : Int)] 73 false 0))[r]? = some (.cells [.string (txt all), .int .i64 ((n + 1 : Nat) : Int)] 73 false 0) := get_set_self h1
      have hst : RSt (L.set r (.cells [.string (txt all), .int .i64 ((n + 1 : Nat) : Int)] 73 false 0)) r (all.drop (n + 1)) := ⟨all, n + 1, h1s, by omega, h3, rfl⟩
      have hw : IntKind.wrap .i64 ((n : Int) + 1) = ((n + 1 : Nat) : Int) := by rw [wI64 (by omega) (by omega)]; omega
      have hwi : IntKind.wrap .i64 ((i : Int) + 1) = ((i + 1 : Nat) : Int) := by rw [wI64 (by omega) (by omega)]; omega
      have hsr : stores L ((Addr.mk r 0 none).add 1) [.int .i64 ((n + 1 : Nat) : Int)] = some (L.set r (.cells [.string (txt all), .int .i64 ((n + 1 : Nat) : Int)] 73 false 0)) := by
        rw [mk_add, stores_of h1 (by simp)]; rfl
      obtain ⟨L', v, b, rest', e1, e2, e3, e4⟩ := ih (i + 1) j (a ++ [all[n]]) (all.drop (n + 1)) _ (by omega) (by omega) (by omega) (by simp; omega) hst
      have hval : ((2 ^ (i + 1 - 1) + bitNum (a ++ [all[n]]) : Nat) : Int) = 2 * ((2 ^ (i - 1) + bitNum a : Nat) : Int) + (all[n].toNat : Int) := by
        rw [hp2, bitNum_snoc]; push_cast; omega
      rw [hval] at e1
      have hcont : (if (all.drop n).length < m + 1 then b = false else b = true ∧ v = ((2 ^ (size - 1) + bitNum (a ++ (all.drop n).take (m + 1)) : Nat) : Int) ∧ rest' = (all.drop n).drop (m + 1)) := by
        rw [hd]
        simp only [List.length_cons, List.take_succ_cons, List.drop_succ_cons]
        have eA : a ++ all[n] :: (all.drop (n + 1)).take m = a ++ [all[n]] ++ (all.drop (n + 1)).take m := by simp
        rw [eA]
        split at e4
        · rename_i hlt; rw [if_pos (by omega)]; exact e4
        · rename_i hlt; rw [if_neg (by omega)]; exact e4
      cases hbit : all[n] with
      | true =>
        rw [if_pos rfl, show ((49 : Int) == 49) = true from rfl, lif_true]
        rw [hw, hsr]
        simp only [obind_some]
        rw [wI64 (n := 2 * ((2 ^ (i - 1) + bitNum a : Nat) : Int)) (by omega) (by omega), wI64 (by omega) (by omega), hwi]
        rw [hbit] at e1
        exact ⟨L', v, b, rest', e1, (Step.set _ (by simp)).trans e2, e3, hcont⟩
      | false =>
        rw [if_neg (by decide), show ((48 : Int) == 49) = false from rfl, lif_false]
        rw [hw, hsr]
        simp only [obind_some]
        rw [wI64 (n := 2 * ((2 ^ (i - 1) + bitNum a : Nat) : Int)) (by omega) (by omega), hwi]
        rw [hbit] at e1
        have e1' : f41_l5 k j (some ⟨r, 0, none⟩) (size : Int) (2 * ((2 ^ (i - 1) + bitNum a : Nat) : Int)) ((i + 1 : Nat) : Int) (L.set r (.cells [.string (txt all), .int .i64 ((n + 1 : Nat) : Int)] 73 false 0)) = some (.ret (.tuple #[.int .i64 v, .bool b]) L') := by
          rw [← e1]; congr 1
        exact ⟨L', v, b, rest', e1', (Step.set _ (by simp)).trans e2, e3, hcont⟩
    · rw [decide_eq_true (by omega), lif_true]
      refine ⟨L, _, _, all.drop n, rfl, .refl _ _, ⟨all, n, h1, h2, h3, rfl⟩, ?_⟩
      rw [if_pos (by simp; omega)]
theorem rnum_ok {k r size : Nat} {rest : List Bool} {L : LHeap} (h : RSt L r rest) (hs : size ≤ 32) (hk : 50 ≤ k) :
    ∃ L' v b rest', f41 k (some ⟨r, 0, none⟩) (size : Int) L = some (.ret (.tuple #[.int .i64 v, .bool b]) L') ∧ Step [r] L [r] L' ∧ RSt L' r rest' ∧
      (match readNum size rest with | none => b = false | some (n, q) => b = true ∧ v = (n : Int) ∧ rest' = q ∧ n < 2 ^ 33) := by
  obtain ⟨k, rfl⟩ : ∃ k', k = k' + 1 := ⟨k - 1, by omega⟩
  rw [f41_eq]
  by_cases h0 : size = 0
  · subst h0
    rw [show (((0 : Nat) : Int) == 0) = true from rfl, lif_true]
    refine ⟨L, _, _, rest, rfl, .refl _ _, h, ?_⟩
    unfold readNum
    rw [if_pos (by omega)]
    exact ⟨rfl, rfl, rfl, by decide⟩
  · rw [show ((size : Int) == 0) = false by simp; omega, lif_false]
    obtain ⟨L', v, b, rest', e1, e2, e3, e4⟩ := rnum_loop (k := k) (r := r) hs (size - 1) 1 k [] rest L (by omega) (by omega) (by omega) rfl h
    refine ⟨L', v, b, rest', e1, e2, e3, ?_⟩
    unfold readNum
    by_cases h2 : size < 2
    · have : size = 1 := by omega
      subst this
      rw [if_pos (by omega)]
      rw [if_neg (by omega)] at e4
      obtain ⟨q1, q2, q3⟩ := e4
      exact ⟨q1, by rw [q2]; rfl, by simpa using q3, by decide⟩
    · rw [if_neg h2]
      by_cases h3 : rest.length < size - 1
      · rw [if_pos h3] at e4 ⊢
        exact e4
      · rw [if_neg h3] at e4 ⊢
        obtain ⟨q1, q2, q3⟩ := e4
        have hb := bitNum_lt (rest.take (size - 1))
        have hl : (rest.take (size - 1)).length = size - 1 := by simp; omega
        rw [hl] at hb
        have hp : 2 ^ (size - 1) ≤ 2 ^ 31 := Nat.pow_le_pow_right (by omega) (by omega)
        exact ⟨q1, by rw [q2]; simp, q3, by omega⟩
theorem strBits_one {b : Nat} (h : b < 256) : strBits [b] = bitsOf b 8 := by
  apply List.ext_getElem?
  intro q
  by_cases hq : q < 8
  · have e1 : (strBits [b])[q]? = some (b.testBit (7 - q)) := by
      have h0 : ([b] : List Nat).getD (q / 8) 0 = b := by rw [Nat.div_eq_of_lt hq]; rfl
      unfold strBits
      rw [unpack_get (by rw [strOf_size]; simp; omega), bitAt_str (by simp; omega), h0, UInt8.toNat_ofNat_of_lt' h, Nat.mod_eq_of_lt hq]
    have e2 : (bitsOf b 8)[q]? = some (b.testBit (7 - q)) := by
      unfold bitsOf
      rw [List.getElem?_map, List.getElem?_range hq]
      rfl
    rw [e1, e2]
  · rw [List.getElem?_eq_none (by rw [strBits_length]; simp; omega), List.getElem?_eq_none (by rw [bitsOf_length]; omega)]
/-- The text of the bits that are left. -/
theorem rtext_loop {k : Nat} {s : ByteArray} {l1 l2 : Sl} {L : LHeap} (hs : s.size < 2 ^ 30) (hk : 50 ≤ k) : ∀ (m i j : Nat) (acc : List Bool), i + m = s.size → m < j → acc.length ≤ 8 * i →
    f20_l9 k j s l1 l2 (txt acc) (i : Int) L = f20_l15 k k s l1 l2 L.length ⟨none, 0, 0⟩ 0 (L ++ [.cells [.string (txt (acc ++ strBits ((bytesL s).drop i))), .int .i64 0] 73 false 0]) := by
  intro m
  induction m with
  | zero =>
    intro i j acc hi hj ha
    obtain ⟨j, rfl⟩ : ∃ j', j = j' + 1 := ⟨j - 1, by omega⟩
    rw [f20_l9_eq, decide_eq_false (by omega), lif_false, List.drop_of_length_le (by rw [bytesL_length]; omega)]
    have : strBits [] = [] := List.eq_nil_of_length_eq_zero (by simp)
    rw [this, List.append_nil]
  | succ m ih =>
    intro i j acc hi hj ha
    obtain ⟨j, rfl⟩ : ∃ j', j = j' + 1 := ⟨j - 1, by omega⟩
    obtain ⟨b, b1, b2, b3⟩ := bytesL_at (s := s) (i := i) (by omega)
    rw [f20_l9_eq, decide_eq_true (by omega), lif_true, b2, obind_some]
    have e8 : (8 : Int) = ((8 : Nat) : Int) := rfl
    rw [wU32 (by omega) (by omega), e8, bits40_ok (by omega) (by omega) (by omega), lbind_ret, asS_string, obind_some]
    rw [decide_eq_true (by rw [txt_size, txt_size, bitsOf_length]; unfold maxI; omega), when_true, txt_append, wI64 (by omega) (by omega), show (i : Int) + 1 = ((i + 1 : Nat) : Int) by omega]
    have hb : i < (bytesL s).length := get_lt b1
    rw [ih (i + 1) j _ (by omega) (by omega) (by rw [List.length_append, bitsOf_length]; omega)]
    have hd : (bytesL s).drop i = [b] ++ (bytesL s).drop (i + 1) := by
      rw [List.drop_eq_getElem_cons hb]
      rw [List.getElem?_eq_getElem hb] at b1
      injection b1 with b1
      rw [b1]; rfl
    rw [hd, strBits_append, strBits_one b3, List.append_assoc]
end Go.Proofs.Ytflhogapjmdkaaa.X
end

section
set_option maxRecDepth 100000
set_option linter.unusedVariables false
namespace Go.Proofs.Ytflhogapjmdkaaa.X
open Go Go.Rlm
structure DR (L : LHeap) (N r : Nat) (l1 l2 : Sl) (z1 z2 : List Int) (rest : List Bool) : Prop where
  rs : RSt L r rest
  c1 : ∃ A, Rd L l1 (z1.map iV) A ∧ r ∉ A ∧ ∀ i ∈ A, i < N
  c2 : ∃ A, Rd L l2 (z2.map iV) A ∧ r ∉ A ∧ ∀ i ∈ A, i < N
  rN : r < N
  NL : N ≤ L.length
theorem DR.step {L L' : LHeap} {N r : Nat} {l1 l2 : Sl} {z1 z2 : List Int} {rest rest' : List Bool} (h : DR L N r l1 l2 z1 z2 rest) (hs : Step [r] L [r] L') (hb : RSt L' r rest') : DR L' N r l1 l2 z1 z2 rest' := by
  obtain ⟨h1, ⟨A1, f1, f2, f3⟩, ⟨A2, g1, g2, g3⟩, h5, h6⟩ := h
  have k : ∀ i, i < L.length → i ≠ r → L'[i]? = L[i]? := fun i hi hx => hs.keep i hi (by simpa using hx)
  exact ⟨hb, ⟨A1, f1.mono (fun i hi => k i (by have := f3 i hi; omega) fun e => f2 (e ▸ hi)), f2, f3⟩, ⟨A2, g1.mono (fun i hi => k i (by have := g3 i hi; omega) fun e => g2 (e ▸ hi)), g2, g3⟩, h5, Nat.le_trans h6 hs.len⟩
theorem DR.frame {L L' : LHeap} {N r : Nat} {l1 l2 : Sl} {z1 z2 : List Int} {rest : List Bool} (h : DR L N r l1 l2 z1 z2 rest) (hk : ∀ i, i < N → L'[i]? = L[i]?) (hl : L.length ≤ L'.length) : DR L' N r l1 l2 z1 z2 rest := by
  obtain ⟨h1, ⟨A1, f1, f2, f3⟩, ⟨A2, g1, g2, g3⟩, h5, h6⟩ := h
  exact ⟨h1.mono (hk r h5), ⟨A1, f1.mono (fun i hi => hk i (f3 i hi)), f2, f3⟩, ⟨A2, g1.mono (fun i hi => hk i (g3 i hi)), g2, g3⟩, h5, Nat.le_trans h6 hl⟩
def errU : Value := .tuple #[.slice none 0 0, .int .i64 4]
/-- A token that was read: its shape; it is laid behind the others. -/
theorem rtail_ok {k j c r : Nat} {s : ByteArray} {l1 l2 l4 : Sl} {n5 : Int} {t : Tok} {acc : List Tok} {Fo : List Nat} {M : LHeap} (hc : M[c]? = some (.cells (tokL t) 29 false 0)) (hO : OZ M l4 (acc.flatMap tokL) 29 5 Fo)
    (hlen : acc.length < 2 ^ 30) (hk : 2 ≤ k) : ∃ X M',
    (obind (Option.bind (cell M (Addr.add (Addr.mk c 0 none) 0)) (asI IntKind.u8)) fun n98 =>
      obind (Option.bind (cell M (Addr.add (Addr.mk c 0 none) 1)) (asI IntKind.u8)) fun n99 =>
      obind (Option.bind (cell M (Addr.add (Addr.mk c 0 none) 2)) (asI IntKind.i64)) fun n100 =>
      obind (Option.bind (cell M (Addr.add (Addr.mk c 0 none) 3)) (asI IntKind.i64)) fun n101 =>
      obind (Option.bind (cell M (Addr.add (Addr.mk c 0 none) 4)) (asI IntKind.i64)) fun n102 =>
      lbind (f17 k n98 n99 n100 n101 n102 M) fun v103 L104 =>
      obind (asB v103) fun b105 =>
      lif (!b105) (some (LR.ret (Value.tuple #[Value.slice none 0 0, Value.int IntKind.i64 4]) L104))
        (obind (Option.bind (cell L104 (Addr.add (Addr.mk c 0 none) 0)) (asI IntKind.u8)) fun n106 =>
          obind (Option.bind (cell L104 (Addr.add (Addr.mk c 0 none) 1)) (asI IntKind.u8)) fun n107 =>
          obind (Option.bind (cell L104 (Addr.add (Addr.mk c 0 none) 2)) (asI IntKind.i64)) fun n108 =>
          obind (Option.bind (cell L104 (Addr.add (Addr.mk c 0 none) 3)) (asI IntKind.i64)) fun n109 =>
          obind (Option.bind (cell L104 (Addr.add (Addr.mk c 0 none) 4)) (asI IntKind.i64)) fun n110 =>
          obind
            (srcOf (L104 ++ [LBlk.cells [Value.int IntKind.u8 n106, Value.int IntKind.u8 n107, Value.int IntKind.i64 n108, Value.int IntKind.i64 n109, Value.int IntKind.i64 n110] 29 false 0])
              Proofs.Try.prog.types[29].size 1 (Value.slice (some (Addr.mk (List.length L104) 0 none)) 1 1))
            fun x111 =>
            obind
              (app (L104 ++ [LBlk.cells [Value.int IntKind.u8 n106, Value.int IntKind.u8 n107, Value.int IntKind.i64 n108, Value.int IntKind.i64 n109, Value.int IntKind.i64 n110] 29 false 0])
                29 Proofs.Try.prog.types[29].size Proofs.Try.prog.types[29].bytes l4 1 x111)
              fun x112 => f20_l15 k j s l1 l2 r x112.fst (IntKind.wrap IntKind.i64 (n5 + 1)) x112.snd)) = X ∧
    (if tokShape t = true then ∃ l' F', X = f20_l15 k j s l1 l2 r l' (IntKind.wrap IntKind.i64 (n5 + 1)) M' ∧ OZ M' l' ((acc ++ [t]).flatMap tokL) 29 5 F' ∧ Step Fo M F' M' else X = some (.ret errU M') ∧ Step Fo M [] M') := by
  obtain ⟨e0, e1, e2, e3, e4⟩ := tok_cell hc
  rw [e0]; simp only [Option.bind_some, asI_int, obind_some]
  rw [e1]; simp only [Option.bind_some, asI_int, obind_some]
  rw [e2]; simp only [Option.bind_some, asI_int, obind_some]
  rw [e3]; simp only [Option.bind_some, asI_int, obind_some]
  rw [e4]; simp only [Option.bind_some, asI_int, obind_some]
  obtain ⟨M1, a1, a2⟩ := rshape_ok (k := k) (t := t) (L := M) (by omega)
  rw [a1]
  simp only [lbind_ret, asB_bool, obind_some]
  have hO1 := hO.mono (a2.others hO.within fun i hi => by cases hi)
  have hc1 : M1[c]? = some (.cells (tokL t) 29 false 0) := by rw [a2.keep c (get_lt hc) (by simp), hc]
  cases hsh : tokShape t with
  | false =>
    rw [Bool.not_false, lif_true]
    exact ⟨_, M1, rfl, by rw [if_neg (by decide)]; exact ⟨rfl, (a2.mono (G := Fo) fun i hi => by cases hi)⟩⟩
  | true =>
    rw [Bool.not_true, lif_false]
    obtain ⟨e0, e1, e2, e3, e4⟩ := tok_cell hc1
    rw [e0]; simp only [Option.bind_some, asI_int, obind_some]
    rw [e1]; simp only [Option.bind_some, asI_int, obind_some]
    rw [e2]; simp only [Option.bind_some, asI_int, obind_some]
    rw [e3]; simp only [Option.bind_some, asI_int, obind_some]
    rw [e4]; simp only [Option.bind_some, asI_int, obind_some]
    rw [size29, bytes29, src_tok]
    simp only [obind_some]
    have hO2 : OZ (M1 ++ [LBlk.cells [Value.int .u8 t.k, Value.int .u8 t.b, Value.int .i64 t.l, Value.int .i64 t.d, Value.int .i64 t.s] 29 false 0]) l4 (acc.flatMap tokL) 29 5 Fo := hO1.mono fun i hi => get_push (hO1.within i hi)
    have st2 : Step Fo M Fo (M1 ++ [LBlk.cells [Value.int .u8 t.k, Value.int .u8 t.b, Value.int .i64 t.l, Value.int .i64 t.d, Value.int .i64 t.s] 29 false 0]) := (Step.wide a2 (by simp)).trans (.push _ _ _)
    generalize M1 ++ [LBlk.cells [Value.int .u8 t.k, Value.int .u8 t.b, Value.int .i64 t.l, Value.int .i64 t.d, Value.int .i64 t.s] 29 false 0] = M2 at *
    have hn := (OZ.rt hO2).len
    obtain ⟨s', M3, F3, p1, p2, p3, p4⟩ := hO2.app [.int .u8 t.k, .int .u8 t.b, .int .i64 t.l, .int .i64 t.d, .int .i64 t.s] 1 32 (by omega) (by rfl) (by omega) (by omega)
    rw [p1]
    simp only [obind_some]
    have hcat : acc.flatMap tokL ++ [.int .u8 t.k, .int .u8 t.b, .int .i64 t.l, .int .i64 t.d, .int .i64 t.s] = (acc ++ [t]).flatMap tokL := by simp [tokL]
    rw [hcat] at p2
    exact ⟨_, M3, rfl, by rw [if_pos trivial]; exact ⟨s', F3, rfl, p2, st2.trans p4⟩⟩
/-- The last bits. -/
theorem rend_loop {k j15 r n : Nat} {l2 : Sl} {all : List Bool} {L : LHeap} (h : L[r]? = some (.cells [.string (txt all), .int .i64 (n : Int)] 73 false 0)) (h3 : all.length < 2 ^ 36) : ∀ (m i j : Nat), i + m = all.length → m < j →
    f20_l24 k j15 j r l2 (i : Int) L = some (.ret (if (all.drop i).all (!·) then .tuple #[.slice l2.a l2.n l2.c, .int .i64 0] else errU) L) := by
  have c0 : cell L ((Addr.mk r 0 none).add 0) = some (.string (txt all)) := by rw [mk_add, cell_of h]; rfl
  intro m
  induction m with
  | zero =>
    intro i j hi hj
    obtain ⟨j, rfl⟩ : ∃ j', j = j' + 1 := ⟨j - 1, by omega⟩
    rw [f20_l24_eq, c0]
    simp only [Option.bind_some, asS_string, obind_some, txt_size]
    rw [decide_eq_false (by omega), lif_false, List.drop_of_length_le (by omega)]
    rfl
  | succ m ih =>
    intro i j hi hj
    obtain ⟨j, rfl⟩ : ∃ j', j = j' + 1 := ⟨j - 1, by omega⟩
    have hi2 : i < all.length := by omega
    have hd : all.drop i = all[i] :: all.drop (i + 1) := List.drop_eq_getElem_cons hi2
    rw [f20_l24_eq, c0]
    simp only [Option.bind_some, asS_string, obind_some, txt_size]
    rw [decide_eq_true (by omega), lif_true, txt_at hi2]
    simp only [obind_some]
    rw [hd, List.all_cons, wI64 (by omega) (by omega), show (i : Int) + 1 = ((i + 1 : Nat) : Int) by omega]
    cases all[i] with
    | true =>
      rw [if_pos rfl, show ((49 : Int) != 48) = true from rfl, lif_true]
      rfl
    | false =>
      rw [if_neg (by decide), show ((48 : Int) != 48) = false from rfl, lif_false, ih (i + 1) j (by omega) (by omega), Bool.not_false, Bool.true_and]
theorem runpack_loop {k N r : Nat} {s : ByteArray} {l1 l2 : Sl} {z1 z2 : List Int} (hs : s.size < 2 ^ 25) (m1 : may z1 = true) (m2 : may z2 = true) (h277 : z1.length = 277) (h9 : z2.length = 9) (hk : 8 * s.size + 800 ≤ k) :
    ∀ (f n j : Nat) (l : Sl) (acc : List Tok) (rest : List Bool) (Fo : List Nat) (L : LHeap), n + f = 8 * s.size + 1 → f < j → rest.length ≤ 8 * s.size → DR L N r l1 l2 z1 z2 rest → OZ L l (acc.flatMap tokL) 29 5 Fo → (∀ i ∈ Fo, N ≤ i) → acc.length + f < 2 ^ 30 →
    match readToks z1 z2 f rest acc with
    | none => ∃ L', f20_l15 k j s l1 l2 r l (n : Int) L = some (.ret errU L') ∧ Step (r :: Fo) L [] L'
    | some ts => ∃ l' L' F', f20_l15 k j s l1 l2 r l (n : Int) L = some (.ret (.tuple #[.slice l'.a l'.n l'.c, .int .i64 0]) L') ∧ OZ L' l' (ts.flatMap tokL) 29 5 F' ∧ Step (r :: Fo) L F' L' := by
  have hB : IntKind.wrap IntKind.i64 (IntKind.wrap IntKind.i64 (8 * ((s.size : Nat) : Int)) + 1) = ((8 * s.size + 1 : Nat) : Int) := by
    rw [wI64 (n := 8 * ((s.size : Nat) : Int)) (by omega) (by omega), wI64 (by omega) (by omega)]; omega
  intro f
  induction f with
  | zero =>
    intro n j l acc rest Fo L hn hj hr h hO hF hlen
    obtain ⟨j, rfl⟩ : ∃ j', j = j' + 1 := ⟨j - 1, by omega⟩
    rw [f20_l15_eq, hB, decide_eq_false (by omega), lif_false]
    exact ⟨L, rfl, (Step.refl _ _).less fun i hi => by cases hi⟩
  | succ f ih =>
    intro n j l acc rest Fo L hn hj hr h hO hF hlen
    obtain ⟨j, rfl⟩ : ∃ j', j = j' + 1 := ⟨j - 1, by omega⟩
    obtain ⟨A1, f1, f2, f3⟩ := h.c1
    obtain ⟨L1, v, b, rest1, a1, a2, a3, a4⟩ := rsym_ok (k := k) h.rs f1 m1 (by omega)
    have h1 := h.step a2 a3
    have rF : r ∉ Fo := fun hi => by have := hF r hi; have := h.rN; omega
    have hO1 := hO.mono (a2.others hO.within fun i hi hf => by simp at hi; subst hi; exact rF hf)
    rw [f20_l15_eq, hB, decide_eq_true (by omega), lif_true, a1]
    simp only [lbind_ret, tupL_tuple, uncons_cons, nilL_nil, asI_int, asB_bool, obind_some]
    have s1 : Step (r :: Fo) L (r :: Fo) L1 := Step.wide a2 (by simp)
    have stop : ∀ {M : LHeap}, Step (r :: Fo) L (r :: Fo) M → Step (r :: Fo) L [] M := fun {M} h => h.less fun i hi => by cases hi
    unfold readToks readTok
    match hx : readSym z1 rest with
    | (none, q) =>
      rw [hx] at a4
      simp only at a4 ⊢
      rw [a4, Bool.not_false, lif_true]
      exact ⟨L1, rfl, stop s1⟩
    | (some i, q) =>
      rw [hx] at a4
      obtain ⟨rfl, rfl, rfl⟩ := a4
      obtain ⟨u1, u2, u3⟩ := readSym_some hx
      have hsh := symBits_pos u2
      have hql : rest1.length < rest.length := by rw [u3]; simp; omega
      simp only
      rw [Bool.not_true, lif_false]
      by_cases i256 : i = 256
      · rw [if_pos i256, show ((i : Int) == 256) = true by simp; omega, lif_true]
        simp only
        obtain ⟨all, m, g1, g2, g3, g4⟩ := a3
        have c0 : cell L1 ((Addr.mk r 0 none).add 0) = some (.string (txt all)) := by rw [mk_add, cell_of g1]; rfl
        have c1 : cell L1 ((Addr.mk r 0 none).add 1) = some (.int .i64 (m : Int)) := by rw [mk_add, cell_of g1]; rfl
        rw [c0]; simp only [Option.bind_some, asS_string, obind_some]
        rw [c1]; simp only [Option.bind_some, asI_int, obind_some, txt_size]
        rw [wI64 (by omega) (by omega)]
        have hrl : rest1.length = all.length - m := by rw [g4]; simp
        by_cases h8 : 8 ≤ rest1.length
        · rw [decide_eq_true (by omega), lif_true]
          rw [show endOk rest1 = false by simp [endOk]; omega]
          simp only [Bool.false_eq_true, if_false]
          exact ⟨L1, rfl, stop s1⟩
        · rw [decide_eq_false (by omega), lif_false, rend_loop (k := k) g1 g3 (all.length - m) m k (by omega) (by omega), ← g4]
          have he : endOk rest1 = rest1.all (!·) := by unfold endOk; rw [decide_eq_true (by omega), Bool.true_and]
          rw [he]
          cases rest1.all (!·) with
          | true =>
            simp only [if_true]
            exact ⟨l, L1, Fo, rfl, hO1, s1.less fun i hi => .inl (by simp [hi])⟩
          | false =>
            simp only [Bool.false_eq_true, if_false]
            exact ⟨L1, rfl, stop s1⟩
      rw [if_neg i256, show ((i : Int) == 256) = false by simp; omega, lif_false]
      have hz : [LBlk.cells [Value.int IntKind.u8 0, Value.int IntKind.u8 0, Value.int IntKind.i64 0, Value.int IntKind.i64 0, Value.int IntKind.i64 0] 29 false 0] = [LBlk.cells (tokL ⟨0, 0, 0, 0, 0⟩) 29 false 0] := rfl
      rw [hz]
      have hNL := h1.NL
      have g0 : (L1 ++ [LBlk.cells (tokL ⟨0, 0, 0, 0, 0⟩) 29 false 0])[L1.length]? = some (.cells (tokL ⟨0, 0, 0, 0, 0⟩) 29 false 0) := get_new
      have h2 : DR (L1 ++ [LBlk.cells (tokL ⟨0, 0, 0, 0, 0⟩) 29 false 0]) N r l1 l2 z1 z2 rest1 := h1.frame (fun x hx => get_push (by omega)) (by simp)
      have hO2 : OZ (L1 ++ [LBlk.cells (tokL ⟨0, 0, 0, 0, 0⟩) 29 false 0]) l (acc.flatMap tokL) 29 5 Fo := hO1.mono fun x hx => get_push (hO1.within x hx)
      have s2 : Step (r :: Fo) L (L1.length :: (r :: Fo)) (L1 ++ [LBlk.cells (tokL ⟨0, 0, 0, 0, 0⟩) 29 false 0]) := s1.trans (.new _ _ _)
      have hcF : L1.length ∉ Fo := fun hi => by have := hO1.within _ hi; omega
      generalize hc : L1.length = c at *
      have hcr : c ≠ r := by have := h.rN; omega
      generalize L1 ++ [LBlk.cells (tokL ⟨0, 0, 0, 0, 0⟩) 29 false 0] = L2 at *
      have keep : ∀ {M M' : LHeap} {x : LBlk}, Step [r] M [r] M' → M[c]? = some x → M'[c]? = some x := fun {M M' x} hs hv => by
        rw [hs.keep c (get_lt hv) (by simpa using hcr), hv]
      have keepO : ∀ {M M' : LHeap}, Step [r] M [r] M' → OZ M l (acc.flatMap tokL) 29 5 Fo → OZ M' l (acc.flatMap tokL) 29 5 Fo := fun {M M'} hs ho => ho.mono (hs.others ho.within fun x hx hf => by simp at hx; subst hx; exact rF hf)
      have setO : ∀ {M : LHeap} {x : LBlk}, OZ M l (acc.flatMap tokL) 29 5 Fo → OZ (M.set c x) l (acc.flatMap tokL) 29 5 Fo := fun {M x} ho => ho.mono fun y hy => get_set_ne fun e => hcF (e ▸ hy)
      have setS : ∀ {M : LHeap} {x : LBlk}, Step (c :: (r :: Fo)) M (c :: (r :: Fo)) (M.set c x) := fun {M x} => .set _ (by simp)
      have setD : ∀ {M : LHeap} {x : LBlk} {q : List Bool}, DR M N r l1 l2 z1 z2 q → DR (M.set c x) N r l1 l2 z1 z2 q := fun {M x q} hd => hd.frame (fun y hy => get_set_ne (by omega)) (by simp)
      have wide : ∀ {M M' : LHeap}, Step [r] M [r] M' → Step (c :: (r :: Fo)) M (c :: (r :: Fo)) M' := fun {M M'} hs => Step.wide hs (by simp)
      have stop2 : ∀ {M : LHeap}, Step (r :: Fo) L (c :: (r :: Fo)) M → Step (r :: Fo) L [] M := fun {M} h => h.less fun x hx => by cases hx
      -- the tail
      have tail : ∀ (M : LHeap) (t : Tok) (q : List Bool), M[c]? = some (.cells (tokL t) 29 false 0) → DR M N r l1 l2 z1 z2 q → OZ M l (acc.flatMap tokL) 29 5 Fo → Step (r :: Fo) L (c :: (r :: Fo)) M → q.length ≤ 8 * s.size →
          ∀ X : R, (∀ (Y : R) (M' : LHeap), ((obind (Option.bind (cell M (Addr.add (Addr.mk c 0 none) 0)) (asI IntKind.u8)) fun n98 =>
            obind (Option.bind (cell M (Addr.add (Addr.mk c 0 none) 1)) (asI IntKind.u8)) fun n99 =>
            obind (Option.bind (cell M (Addr.add (Addr.mk c 0 none) 2)) (asI IntKind.i64)) fun n100 =>
            obind (Option.bind (cell M (Addr.add (Addr.mk c 0 none) 3)) (asI IntKind.i64)) fun n101 =>
            obind (Option.bind (cell M (Addr.add (Addr.mk c 0 none) 4)) (asI IntKind.i64)) fun n102 =>
            lbind (f17 k n98 n99 n100 n101 n102 M) fun v103 L104 =>
            obind (asB v103) fun b105 =>
            lif (!b105) (some (LR.ret (Value.tuple #[Value.slice none 0 0, Value.int IntKind.i64 4]) L104))
              (obind (Option.bind (cell L104 (Addr.add (Addr.mk c 0 none) 0)) (asI IntKind.u8)) fun n106 =>
                obind (Option.bind (cell L104 (Addr.add (Addr.mk c 0 none) 1)) (asI IntKind.u8)) fun n107 =>
                obind (Option.bind (cell L104 (Addr.add (Addr.mk c 0 none) 2)) (asI IntKind.i64)) fun n108 =>
                obind (Option.bind (cell L104 (Addr.add (Addr.mk c 0 none) 3)) (asI IntKind.i64)) fun n109 =>
                obind (Option.bind (cell L104 (Addr.add (Addr.mk c 0 none) 4)) (asI IntKind.i64)) fun n110 =>
                obind
                  (srcOf (L104 ++ [LBlk.cells [Value.int IntKind.u8 n106, Value.int IntKind.u8 n107, Value.int IntKind.i64 n108, Value.int IntKind.i64 n109, Value.int IntKind.i64 n110] 29 false 0])
                    Proofs.Try.prog.types[29].size 1 (Value.slice (some (Addr.mk (List.length L104) 0 none)) 1 1))
                  fun x111 =>
                  obind
                    (app (L104 ++ [LBlk.cells [Value.int IntKind.u8 n106, Value.int IntKind.u8 n107, Value.int IntKind.i64 n108, Value.int IntKind.i64 n109, Value.int IntKind.i64 n110] 29 false 0])
                      29 Proofs.Try.prog.types[29].size Proofs.Try.prog.types[29].bytes l 1 x111)
                    fun x112 => f20_l15 k j s l1 l2 r x112.fst (IntKind.wrap IntKind.i64 ((n : Int) + 1)) x112.snd)) = Y) → X = Y) →
          match (if tokShape t = true then readToks z1 z2 f q (acc ++ [t]) else none) with
          | none => ∃ L', X = some (.ret errU L') ∧ Step (r :: Fo) L [] L'
          | some ts => ∃ l' L' F', X = some (.ret (.tuple #[.slice l'.a l'.n l'.c, .int .i64 0]) L') ∧ OZ L' l' (ts.flatMap tokL) 29 5 F' ∧ Step (r :: Fo) L F' L' := by
        intro M t q hM hD hMO hS hq X hX
        obtain ⟨Y, M', y1, y2⟩ := rtail_ok (k := k) (j := j) (r := r) (s := s) (l1 := l1) (l2 := l2) (n5 := (n : Int)) hM hMO (by omega) (by omega)
        have hXY := hX Y M' y1
        subst hXY
        cases hsp : tokShape t with
        | false =>
          rw [hsp, if_neg (by decide)] at y2
          simp only [Bool.false_eq_true, if_false]
          exact ⟨M', y2.1, hS.trans (y2.2.mono fun x hx => by simp [hx])⟩
        | true =>
          rw [hsp, if_pos rfl] at y2
          simp only [if_true]
          obtain ⟨l', F', z1', z2', z3'⟩ := y2
          rw [z1', wI64 (by omega) (by omega), show (n : Int) + 1 = ((n + 1 : Nat) : Int) by omega]
          have hF' : ∀ x ∈ F', N ≤ x := fun x hx => by
            rcases z3'.foot x hx with w | w
            · exact hF x w
            · have := hD.NL; omega
          have hD' : DR M' N r l1 l2 z1 z2 q := hD.frame (fun x hx => z3'.keep x (by have := hD.NL; omega) fun hf => by have := hF x hf; omega) z3'.len
          have sT : Step (r :: Fo) L (r :: F') M' := by
            refine (hS.trans (z3'.mono fun x hx => by simp [hx])).less fun x hx => ?_
            rcases List.mem_cons.1 hx with rfl | hx
            · exact .inr (by simp)
            · exact .inl hx
          have := ih (n + 1) j l' (acc ++ [t]) q F' M' (by omega) (by omega) hq hD' z2' hF' (by simp; omega)
          match hrt : readToks z1 z2 f q (acc ++ [t]) with
          | none =>
            rw [hrt] at this
            obtain ⟨L', q1, q2⟩ := this
            exact ⟨L', q1, sT.trans q2⟩
          | some ts =>
            rw [hrt] at this
            obtain ⟨l'', L', F'', q1, q2, q3⟩ := this
            exact ⟨l'', L', F'', q1, q2, sT.trans q3⟩
      have e := (stores_tok g0).2.2.2 ⟨1, IntKind.wrap .u8 (i : Int), 0, 0, 0⟩
      simp only at e
      rw [e]
      simp only [obind_some]
      have g2 := get_set_self (x := .cells (tokL ⟨1, IntKind.wrap .u8 (i : Int), 0, 0, 0⟩) 29 false 0) g0
      have h3 : DR (L2.set c (.cells (tokL ⟨1, IntKind.wrap .u8 (i : Int), 0, 0, 0⟩) 29 false 0)) N r l1 l2 z1 z2 rest1 := setD h2
      have hO3 : OZ (L2.set c (.cells (tokL ⟨1, IntKind.wrap .u8 (i : Int), 0, 0, 0⟩) 29 false 0)) l (acc.flatMap tokL) 29 5 Fo := setO hO2
      have s3 : Step (r :: Fo) L (c :: (r :: Fo)) (L2.set c (.cells (tokL ⟨1, IntKind.wrap .u8 (i : Int), 0, 0, 0⟩) 29 false 0)) := s2.trans setS
      generalize L2.set c (.cells (tokL ⟨1, IntKind.wrap .u8 (i : Int), 0, 0, 0⟩) 29 false 0) = L3 at *
      by_cases ilt : i < 256
      · rw [if_pos ilt, decide_eq_false (by omega), lif_false]
        rw [wU8 (by omega) (by omega)] at g2
        exact tail L3 _ rest1 g2 h3 hO3 s3 (by omega) _ fun Y M' hY => hY
      rw [if_neg ilt, decide_eq_true (by omega), lif_true, wI64 (n := (i : Int) - 257) (by omega) (by omega)]
      have e := (stores_tok g2).2.2.2 ⟨3, 0, 0, 0, (i : Int) - 257⟩
      simp only at e
      rw [e]
      simp only [obind_some]
      have g4 := get_set_self (x := .cells (tokL ⟨3, 0, 0, 0, (i : Int) - 257⟩) 29 false 0) g2
      have h4 : DR (L3.set c (.cells (tokL ⟨3, 0, 0, 0, (i : Int) - 257⟩) 29 false 0)) N r l1 l2 z1 z2 rest1 := setD h3
      have hO4 : OZ (L3.set c (.cells (tokL ⟨3, 0, 0, 0, (i : Int) - 257⟩) 29 false 0)) l (acc.flatMap tokL) 29 5 Fo := setO hO3
      have s4 : Step (r :: Fo) L (c :: (r :: Fo)) (L3.set c (.cells (tokL ⟨3, 0, 0, 0, (i : Int) - 257⟩) 29 false 0)) := s3.trans setS
      generalize L3.set c (.cells (tokL ⟨3, 0, 0, 0, (i : Int) - 257⟩) 29 false 0) = L4 at *
      by_cases i260 : i ≤ 260
      · rw [if_pos i260, decide_eq_false (by omega), lif_false]
        obtain ⟨A2, k1, k2, k3⟩ := h4.c2
        obtain ⟨L5, v5, b5, q5, d1, d2, d3, d4⟩ := rsym_ok (k := k) h4.rs k1 m2 (by omega)
        rw [d1]
        simp only [lbind_ret, tupL_tuple, uncons_cons, nilL_nil, asI_int, asB_bool, obind_some]
        have h5 := h4.step d2 d3
        unfold readLen
        match hy : readSym z2 rest1 with
        | (none, q') =>
          rw [hy] at d4
          simp only at d4 ⊢
          rw [d4, Bool.not_false, lif_true]
          exact ⟨L5, rfl, stop2 (s4.trans (wide d2))⟩
        | (some jj, q') =>
          rw [hy] at d4
          obtain ⟨rfl, rfl, rfl⟩ := d4
          obtain ⟨w1, w2, w3⟩ := readSym_some hy
          have hql5 : q5.length ≤ rest1.length := by rw [w3]; simp
          simp only
          rw [Bool.not_true, lif_false]
          obtain ⟨L6, v6, b6, q6, x1, x2, x3, x4⟩ := rnum_ok (k := k) (size := jj) h5.rs (by omega) (by omega)
          rw [x1]
          simp only [lbind_ret, tupL_tuple, uncons_cons, nilL_nil, asI_int, asB_bool, obind_some]
          have h6 := h5.step x2 x3
          match hw : readNum jj q5 with
          | none =>
            rw [hw] at x4
            simp only at x4 ⊢
            rw [x4, Bool.not_false, lif_true]
            exact ⟨L6, rfl, stop2 ((s4.trans (wide d2)).trans (wide x2))⟩
          | some (xx, q7) =>
            rw [hw] at x4
            obtain ⟨rfl, rfl, rfl, hx33⟩ := x4
            obtain ⟨y1, _⟩ := readNum_some hw
            have hql6 : q6.length ≤ q5.length := by rw [y1]; simp
            simp only
            rw [Bool.not_true, lif_false]
            have g6 := keep x2 (keep d2 g4)
            rw [(stores_tok g6).2.1]
            simp only [obind_some]
            rw [wI64 (n := (xx : Int) + 3) (by omega) (by omega)]
            exact tail _ _ q6 (get_set_self g6) (setD h6) (setO (keepO x2 (keepO d2 hO4))) (((s4.trans (wide d2)).trans (wide x2)).trans setS) (by omega) _ fun Y M' hY => hY
      · rw [if_neg i260, decide_eq_true (by omega), lif_true, wI64 (n := (i : Int) - 260) (by omega) (by omega), show (i : Int) - 260 = ((i - 260 : Nat) : Int) by omega]
        have hq32 : i - 260 ≤ 32 := by omega
        generalize i - 260 = qq at *
        obtain ⟨L5, v5, b5, q5, d1, d2, d3, d4⟩ := rnum_ok (k := k) (size := qq) h4.rs hq32 (by omega)
        rw [d1]
        simp only [lbind_ret, tupL_tuple, uncons_cons, nilL_nil, asI_int, asB_bool, obind_some]
        have h5 := h4.step d2 d3
        match hy : readNum qq rest1 with
        | none =>
          rw [hy] at d4
          simp only at d4 ⊢
          rw [d4, Bool.not_false, lif_true]
          exact ⟨L5, rfl, stop2 (s4.trans (wide d2))⟩
        | some (dd, q') =>
          rw [hy] at d4
          obtain ⟨rfl, rfl, rfl, hd33⟩ := d4
          obtain ⟨y0, _⟩ := readNum_some hy
          have hql5 : q5.length ≤ rest1.length := by rw [y0]; simp
          simp only
          rw [Bool.not_true, lif_false]
          have g5 := keep d2 g4
          have e := (stores_tok g5).2.2.2 ⟨2, 0, 0, (dd : Int), 0⟩
          simp only at e
          rw [e]
          simp only [obind_some]
          have g5' := get_set_self (x := .cells (tokL ⟨2, 0, 0, (dd : Int), 0⟩) 29 false 0) g5
          have h5' : DR (L5.set c (.cells (tokL ⟨2, 0, 0, (dd : Int), 0⟩) 29 false 0)) N r l1 l2 z1 z2 q5 := setD h5
          have hO5 : OZ (L5.set c (.cells (tokL ⟨2, 0, 0, (dd : Int), 0⟩) 29 false 0)) l (acc.flatMap tokL) 29 5 Fo := setO (keepO d2 hO4)
          have s5 : Step (r :: Fo) L (c :: (r :: Fo)) (L5.set c (.cells (tokL ⟨2, 0, 0, (dd : Int), 0⟩) 29 false 0)) := (s4.trans (wide d2)).trans setS
          generalize L5.set c (.cells (tokL ⟨2, 0, 0, (dd : Int), 0⟩) 29 false 0) = L6 at *
          obtain ⟨A2, k1, k2, k3⟩ := h5'.c2
          obtain ⟨L7, v7, b7, q7, o1, o2, o3, o4⟩ := rsym_ok (k := k) h5'.rs k1 m2 (by omega)
          rw [o1]
          simp only [lbind_ret, tupL_tuple, uncons_cons, nilL_nil, asI_int, asB_bool, obind_some]
          have h7 := h5'.step o2 o3
          unfold readLen
          match hw : readSym z2 q5 with
          | (none, q') =>
            rw [hw] at o4
            simp only at o4 ⊢
            rw [o4, Bool.not_false, lif_true]
            exact ⟨L7, rfl, stop2 (s5.trans (wide o2))⟩
          | (some jj, q') =>
            rw [hw] at o4
            obtain ⟨rfl, rfl, rfl⟩ := o4
            obtain ⟨w1, w2, w3⟩ := readSym_some hw
            have hql7 : q7.length ≤ q5.length := by rw [w3]; simp
            simp only
            rw [Bool.not_true, lif_false]
            obtain ⟨L8, v8, b8, q8, x1, x2, x3, x4⟩ := rnum_ok (k := k) (size := jj) h7.rs (by omega) (by omega)
            rw [x1]
            simp only [lbind_ret, tupL_tuple, uncons_cons, nilL_nil, asI_int, asB_bool, obind_some]
            have h8 := h7.step x2 x3
            match hw2 : readNum jj q7 with
            | none =>
              rw [hw2] at x4
              simp only at x4 ⊢
              rw [x4, Bool.not_false, lif_true]
              exact ⟨L8, rfl, stop2 ((s5.trans (wide o2)).trans (wide x2))⟩
            | some (xx, q9) =>
              rw [hw2] at x4
              obtain ⟨rfl, rfl, rfl, hx33⟩ := x4
              obtain ⟨y1, _⟩ := readNum_some hw2
              have hql8 : q8.length ≤ q7.length := by rw [y1]; simp
              simp only
              rw [Bool.not_true, lif_false]
              have g8 := keep x2 (keep o2 g5')
              rw [(stores_tok g8).2.1]
              simp only [obind_some]
              rw [wI64 (n := (xx : Int) + 3) (by omega) (by omega)]
              exact tail _ _ q8 (get_set_self g8) (setD h8) (setO (keepO x2 (keepO o2 hO5))) (((s5.trans (wide o2)).trans (wide x2)).trans setS) (by omega) _ fun Y M' hY => hY
end Go.Proofs.Ytflhogapjmdkaaa.X
end

section
set_option maxRecDepth 100000
set_option linter.unusedVariables false
namespace Go.Proofs.Ytflhogapjmdkaaa.X
open Go Go.Rlm
theorem runpack_ok {k : Nat} {s : ByteArray} {L : LHeap} (hs : s.size < 2 ^ 25) (hk : 8 * s.size + 1000 ≤ k) :
    match unpackB (bytesL s) with
    | none => ∃ L', f20 k s L = some (.ret (.tuple #[.slice none 0 0, .int .i64 4]) L') ∧ Step [] L [] L'
    | some ts => ∃ l' L' F', f20 k s L = some (.ret (.tuple #[.slice l'.a l'.n l'.c, .int .i64 0]) L') ∧ OZ L' l' (ts.flatMap tokL) 29 5 F' ∧ Step [] L F' L' := by
  obtain ⟨k, rfl⟩ : ∃ k', k = k' + 1 := ⟨k - 1, by omega⟩
  rw [f20_eq]
  have a1 := rread_ok (k := k) (n := 277) (s := s) (L := L) (by omega) (by omega) (by omega)
  rw [← readTab_ref] at a1
  have e277 : (277 : Int) = ((277 : Nat) : Int) := rfl
  have e9 : (9 : Int) = ((9 : Nat) : Int) := rfl
  unfold unpackB unpackS
  match hx : readTab 277 (bytesL s) [] 0 (-1) true with
  | none =>
    rw [hx] at a1
    obtain ⟨L1, a2, a3⟩ := a1
    rw [e277, a2]
    exact ⟨L1, rfl, a3⟩
  | some (z1, u) =>
    rw [hx] at a1
    obtain ⟨l1, L1, F1, a2, a3, a4⟩ := a1
    obtain ⟨_, hu, hz1, _⟩ := readTab_used 277 (bytesL s) [] 0 (-1) true (by simp) hx
    rw [bytesL_length] at hu
    rw [e277, a2]
    simp only [lbind_ret, tupL_tuple, uncons_cons, nilL_nil, asSl_slice, asI_int, obind_some]
    rw [show ((0 : Int) != 0) = false from rfl, lif_false, rmay_ok (k := k) a3 (by omega) (by omega)]
    simp only [lbind_ret, asB_bool, obind_some]
    have st1 : Step [] L [] L1 := a4.less fun i hi => by cases hi
    cases m1 : may z1 with
    | false =>
      simp only [Bool.false_eq_true, if_false]
      rw [Bool.not_false, lif_true]
      exact ⟨L1, rfl, st1⟩
    | true =>
      simp only [if_true]
      rw [Bool.not_true, lif_false]
      have hsub : subS s (some (u : Int)) none = some (s.extract u s.size) := by
        simp only [subS, bound_out (Nat.le_refl s.size), bound_at 0 (show u ≤ s.size by omega), Option.bind_eq_bind, Option.bind_some]
      rw [hsub, obind_some]
      have hsz : (s.extract u s.size).size = s.size - u := by rw [ByteArray.size_extract]; omega
      have b := rread_ok (k := k) (n := 9) (s := s.extract u s.size) (L := L1) (by omega) (by omega) (by omega)
      rw [← readTab_ref, bytesL_from] at b
      rw [e9]
      match hy : readTab 9 ((bytesL s).drop u) [] 0 (-1) true with
      | none =>
        rw [hy] at b
        obtain ⟨L2, b2, b3⟩ := b
        rw [b2]
        exact ⟨L2, rfl, st1.trans b3⟩
      | some (z2, v) =>
        rw [hy] at b
        obtain ⟨l2, L2, F2, b2, b3, b4⟩ := b
        obtain ⟨_, hv, hz2, _⟩ := readTab_used 9 ((bytesL s).drop u) [] 0 (-1) true (by simp) hy
        rw [List.length_drop, bytesL_length] at hv
        rw [b2]
        simp only [lbind_ret, tupL_tuple, uncons_cons, nilL_nil, asSl_slice, asI_int, obind_some]
        rw [show ((0 : Int) != 0) = false from rfl, lif_false, rmay_ok (k := k) b3 (by omega) (by omega)]
        simp only [lbind_ret, asB_bool, obind_some]
        have st2 : Step [] L1 [] L2 := b4.less fun i hi => by cases hi
        cases m2 : may z2 with
        | false =>
          simp only [Bool.false_eq_true, if_false]
          rw [Bool.not_false, lif_true]
          exact ⟨L2, rfl, st1.trans st2⟩
        | true =>
          simp only [if_true]
          rw [Bool.not_true, lif_false, wI64 (by omega) (by omega), show (u : Int) + (v : Int) = ((u + v : Nat) : Int) by omega]
          have ht := rtext_loop (k := k) (s := s) (l1 := l1) (l2 := l2) (L := L2) (by omega) (by omega) (s.size - (u + v)) (u + v) k [] (by omega) (by omega) (by simp)
          have htx : txt [] = ByteArray.mk #[] := rfl
          rw [htx, List.nil_append] at ht
          rw [ht]
          have hR1 : Rd L2 l1 (z1.map iV) F1 := a3.mono (b4.others a3.within fun i hi => by cases hi)
          have hR2 := b3
          have hlen : (strBits ((bytesL s).drop (u + v))).length = 8 * (s.size - (u + v)) := by rw [strBits_length, List.length_drop, bytesL_length]
          have hdr : DR (L2 ++ [LBlk.cells [Value.string (txt (strBits ((bytesL s).drop (u + v)))), Value.int IntKind.i64 0] 73 false 0]) (L2.length + 1) L2.length l1 l2 z1 z2 (strBits ((bytesL s).drop (u + v))) := by
            refine ⟨⟨_, 0, get_new, by omega, by rw [hlen]; omega, rfl⟩, ⟨F1, hR1.mono fun i hi => get_push (hR1.within i hi), ?_, fun i hi => by have := hR1.within i hi; omega⟩, ⟨F2, hR2.mono fun i hi => get_push (hR2.within i hi), ?_, fun i hi => by have := hR2.within i hi; omega⟩, by omega, by simp⟩
            · intro hf; have := hR1.within _ hf; omega
            · intro hf; have := hR2.within _ hf; omega
          have st3 : Step [] L2 [L2.length] (L2 ++ [LBlk.cells [Value.string (txt (strBits ((bytesL s).drop (u + v)))), Value.int IntKind.i64 0] 73 false 0]) := .new _ _ _
          have := runpack_loop (k := k) (N := L2.length + 1) (r := L2.length) (s := s) (l1 := l1) (l2 := l2) hs m1 m2 hz1 hz2 (by omega) (8 * s.size + 1) 0 k ⟨none, 0, 0⟩ [] (strBits ((bytesL s).drop (u + v))) [] _ (by omega) (by omega) (by rw [hlen]; omega) hdr (OZ.nil _ _ (by omega)) (fun i hi => by cases hi) (by simp; omega)
          rw [bytesL_length, List.drop_drop]
          have stA := (st1.trans st2).trans st3
          match hz : readToks z1 z2 (8 * s.size + 1) (strBits ((bytesL s).drop (u + v))) [] with
          | none =>
            rw [hz] at this
            obtain ⟨L5, q1, q2⟩ := this
            exact ⟨L5, q1, stA.trans q2⟩
          | some ts =>
            rw [hz] at this
            obtain ⟨l5, L5, F5, q1, q2, q3⟩ := this
            exact ⟨l5, L5, F5, q1, q2, stA.trans q3⟩
end Go.Proofs.Ytflhogapjmdkaaa.X
end

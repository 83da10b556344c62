/- Trees on the heap: what the printed forms of the least one, of Delete, and of the depths' walk do. -/
import Derived.Test.YtlcchghlhfamjaaRlmRowz
import Derived.Test.YtlcchghlhfamjaaRlmHuff
import Derived.Test.YtlcchghlhfamjaaHuffD
set_option linter.unusedVariables false
namespace Go.Proofs.Ytlcchghlhfamjaa.X
open Go Go.Rlm

theorem size95 : Proofs.Try.prog.types[95].size = 3 := by kernel_rfl
theorem bytes95 : Proofs.Try.prog.types[95].bytes = 24 := by kernel_rfl

/-! ### slices.Delete of one -/

theorem delete_ok {k : Nat} {s : Sl} {vs : List Value} {F : List Nat} {L : LHeap} (h : OP L s vs 3 F) {i : Nat} (hi : i < vs.length) (hl : vs.length < 2 ^ 40) (hk : 1 ≤ k) :
    ∃ s' L', f59 k s i ((i + 1 : Nat) : Int) L = some (.ret (.slice s'.a s'.n s'.c) L') ∧ OP L' s' (vs.eraseIdx i) 3 F ∧ Step F L F L' := by
  obtain ⟨k, rfl⟩ : ∃ k', k = k' + 1 := ⟨k - 1, by omega⟩
  rcases h with ⟨rfl, rfl, rfl⟩ | ⟨c, rest, rfl, h2, rfl⟩
  · simp at hi
  have hbl : blen L ⟨c, 0, none⟩ 1 = some (vs.length + rest.length) := by
    have := blen_of (o := 0) h2
    simpa using this
  have bO : Nat.blt OPEN OPEN = false := by decide
  have bE : Nat.beq OPEN OPEN = true := Nat.beq_refl _
  have bd : ∀ (i d y : Nat), i ≤ y → bound (some (i : Int)) d y = some i := fun i d y hiy => by
    simp only [bound]
    rw [show (decide ((0 : Int) ≤ (i : Int)) && decide ((i : Int) ≤ (y : Int))) = true by simpa using hiy]
    simp
  have bn : ∀ (d y : Nat), d ≤ y → bound none d y = some d := fun d y hdy => by
    simp only [bound]
    rw [Nat.ble_eq_true_of_le hdy]; rfl
  have cut1 : cut L ⟨some ⟨c, 0, none⟩, vs.length, OPEN⟩ (some (i : Int)) (some ((i + 1 : Nat) : Int)) (some (vs.length : Int)) 1 ≠ none := by
    simp only [cut, bO, bE, cond_true, cond_false, hbl, Option.bind_eq_bind, Option.bind_some, bd vs.length 0 _ (Nat.le_add_right _ _), bd (i + 1) _ _ (show i + 1 ≤ vs.length by omega), bd i 0 _ (show i ≤ i + 1 by omega)]
    rw [if_pos (show vs.length < OPEN by unfold OPEN; omega)]
    simp
  obtain ⟨q1, hq1⟩ := Option.ne_none_iff_exists'.1 cut1
  have cut2 : cut L ⟨some ⟨c, 0, none⟩, vs.length, OPEN⟩ none (some (i : Int)) none 1 = some ⟨some ⟨c, 0, none⟩, i, OPEN⟩ := by
    simp only [cut, bO, bE, cond_true, cond_false, hbl, Option.bind_eq_bind, Option.bind_some, bd i _ _ (show i ≤ vs.length + rest.length by omega), bn 0 _ (Nat.zero_le _)]
    rfl
  have cut3 : ∃ q, cut L ⟨some ⟨c, 0, none⟩, vs.length, OPEN⟩ (some ((i + 1 : Nat) : Int)) none none 1 = some q ∧ q.n = vs.length - (i + 1) ∧ srcOf L 1 q.n (.slice q.a q.n q.c) = some (vs.drop (i + 1)) := by
    simp only [cut, bO, bE, cond_true, cond_false, hbl, Option.bind_eq_bind, Option.bind_some, bn vs.length _ (Nat.le_add_right _ _), bd (i + 1) _ _ (show i + 1 ≤ vs.length by omega)]
    rw [if_neg (by omega)]
    by_cases hlt : i + 1 < vs.length + rest.length
    · rw [if_pos hlt]
      refine ⟨_, rfl, rfl, ?_⟩
      simp only [srcOf, srcCells, mk_add, Nat.mul_one, Nat.zero_add]
      by_cases h0 : vs.length - (i + 1) = 0
      · rw [h0, List.drop_eq_nil_of_le (by omega)]; rfl
      · have hb : Nat.beq (vs.length - (i + 1)) 0 = false := by
          cases hc : Nat.beq (vs.length - (i + 1)) 0 with
          | false => rfl
          | true => exact absurd (Nat.eq_of_beq_eq_true hc) h0
        rw [hb]
        simp only [cond_false, cellsAt, h2]
        rw [Nat.ble_eq_true_of_le (by simp; omega), cond_true]
        refine congrArg some ?_
        rw [List.drop_append_of_le_length (by omega), List.take_append_of_le_length (by simp), List.take_of_length_le (by simp)]
    · rw [if_neg hlt]
      refine ⟨_, rfl, by simp; omega, ?_⟩
      rw [List.drop_eq_nil_of_le (by omega)]
      rfl
  obtain ⟨q3, hq3, hn3, hs3⟩ := cut3
  -- the block behind the copy
  have herase : vs.eraseIdx i = vs.take i ++ vs.drop (i + 1) := List.eraseIdx_eq_take_drop_succ _ _
  have hlen : (vs.take i ++ vs.drop (i + 1)).length = vs.length - 1 := by simp; omega
  have happ : ∃ last L1, app L 3 1 8 ⟨some ⟨c, 0, none⟩, i, OPEN⟩ q3.n (vs.drop (i + 1)) = some (⟨some ⟨c, 0, none⟩, vs.length - 1, OPEN⟩, L1) ∧ L1[c]? = some (.cells (vs.take i ++ vs.drop (i + 1) ++ last :: rest) 3 false 1) ∧ Step [c] L [c] L1 := by
    simp only [app, bO, bE, cond_true, cond_false, hbl, hn3]
    rw [show i + (vs.length - (i + 1)) = vs.length - 1 by omega, Nat.ble_eq_true_of_le (show vs.length - 1 ≤ vs.length + rest.length by omega), cond_true]
    by_cases h0 : i + 1 = vs.length
    · rw [List.drop_eq_nil_of_le (by omega)]
      refine ⟨vs[i], L, rfl, ?_, .refl _ _⟩
      have hv : vs = vs.take i ++ [vs[i]] := by
        conv => lhs; rw [← List.take_length (l := vs), ← h0, List.take_succ_eq_append_getElem hi]
      have hx : vs ++ rest = vs.take i ++ [] ++ vs[i] :: rest := (congrArg (· ++ rest) hv).trans (by simp only [List.append_assoc, List.singleton_append, List.append_nil])
      rw [h2, hx]
    · have hem : (vs.drop (i + 1)).isEmpty = false := by
        cases hd : vs.drop (i + 1) with
        | nil => have := congrArg List.length hd; simp at this; omega
        | cons x xs => rfl
      rw [hem, cond_false]
      simp only [mk_add, Nat.zero_add, Nat.mul_one]
      rw [stores_of h2 (by simp; omega)]
      have hlast : vs.length - 1 < vs.length := by omega
      refine ⟨vs[vs.length - 1], _, rfl, ?_, .set _ (by simp)⟩
      have hsplit : vs = vs.take i ++ ((vs.drop i).take (vs.length - (i + 1)) ++ [vs[vs.length - 1]]) := by
        have h1 : vs = vs.take (vs.length - 1) ++ [vs[vs.length - 1]] := by
          conv => lhs; rw [← List.take_length (l := vs), show vs.length = vs.length - 1 + 1 by omega]
          rw [List.take_succ_eq_append_getElem hlast]
        have h3 : vs.take (vs.length - 1) = vs.take i ++ (vs.drop i).take (vs.length - (i + 1)) := by
          rw [← List.take_add, show i + (vs.length - (i + 1)) = vs.length - 1 by omega]
        rw [← List.append_assoc, ← h3]; exact h1
      have hA : (vs.take i).length = i := by simp; omega
      have := setAll_append (vs.take i) ([vs[vs.length - 1]] ++ rest) (vs.drop (i + 1)) ((vs.drop i).take (vs.length - (i + 1))) (by simp; omega)
      rw [hA] at this
      have he : vs ++ rest = vs.take i ++ (vs.drop i).take (vs.length - (i + 1)) ++ ([vs[vs.length - 1]] ++ rest) := (congrArg (· ++ rest) hsplit).trans (by simp only [List.append_assoc])
      have hx : setAll (vs ++ rest) i (vs.drop (i + 1)) = vs.take i ++ vs.drop (i + 1) ++ vs[vs.length - 1] :: rest := by
        rw [he, this]
        simp
      rw [hx, get_set_self h2]
  obtain ⟨last, L1, g1, g2, g3⟩ := happ
  have hbl1 : blen L1 ⟨c, 0, none⟩ 1 = some (vs.length + rest.length) := by
    have := blen_of (o := 0) g2
    rw [this]
    simp
    omega
  have cut4 : ∃ q, cut L1 ⟨some ⟨c, 0, none⟩, vs.length - 1, OPEN⟩ (some ((vs.length - 1 : Nat) : Int)) (some (vs.length : Int)) none 1 = some q ∧ q.n = 1 ∧ q.a = some ⟨c, vs.length - 1, none⟩ := by
    simp only [cut, bO, bE, cond_true, cond_false, hbl1, Option.bind_eq_bind, Option.bind_some, bd vs.length _ _ (Nat.le_add_right _ _), bd (vs.length - 1) _ _ (show vs.length - 1 ≤ vs.length by omega)]
    by_cases h0 : vs.length - 1 = 0
    · rw [if_pos h0]
      exact ⟨_, rfl, by simp; omega, by rw [h0]⟩
    · rw [if_neg h0, if_pos (by omega)]
      exact ⟨_, rfl, by simp; omega, by simp⟩
  obtain ⟨q4, hq4, hn4, ha4⟩ := cut4
  refine ⟨⟨some ⟨c, 0, none⟩, vs.length - 1, OPEN⟩, L1.set c (.cells (vs.take i ++ vs.drop (i + 1) ++ .int .i64 0 :: rest) 3 false 1), ?_, .inr ⟨c, .int .i64 0 :: rest, by rw [herase, hlen], by rw [get_set_self g2, herase], rfl⟩, g3.trans (.set _ (by simp))⟩
  rw [f59_eq]
  have hne : ((i : Int) == ((i + 1 : Nat) : Int)) = false := by simp; omega
  simp only [hq1, hq3, cut2, obind_some, hne, lif_false, size3, bytes3, hs3, g1, hq4, hn4]
  have hlc : lcopy L1 q4 1 [Value.int IntKind.i64 0].length (List.flatten (List.replicate 1 [Value.int IntKind.i64 0])) = some (L1.set c (.cells (vs.take i ++ vs.drop (i + 1) ++ .int .i64 0 :: rest) 3 false 1)) := by
    simp only [lcopy, ha4]
    rw [show (Nat.beq 1 0 || Nat.beq [Value.int IntKind.i64 0].length 0) = false from rfl, cond_false]
    simp only [List.replicate_one, List.flatten_cons, List.flatten_nil, List.append_nil]
    rw [stores_of g2 (by simp; omega)]
    have := setAll_append (vs.take i ++ vs.drop (i + 1)) rest [Value.int IntKind.i64 0] [last] rfl
    rw [hlen] at this
    simp only [List.append_assoc, List.singleton_append] at this
    simp only [List.append_assoc]
    rw [this]
  rw [hlc]
  rfl

end Go.Proofs.Ytlcchghlhfamjaa.X

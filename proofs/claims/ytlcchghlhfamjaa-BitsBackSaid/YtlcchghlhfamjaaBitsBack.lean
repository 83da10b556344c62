/- What is proved: 'Rows.BitsBackSaid': whatever comes in, the law BitsBack returns true and leaves it as it was. No conditions. The law's printed form is run over the contracts of what it calls; the model follows the logical machine (RlmS18). -/
import Derived.Test.YtlcchghlhfamjaaRows
import Derived.WalkKit
import Derived.ProofKit
import Derived.OpenShut
import Derived.ShutString
import Derived.ChangeOld
import Derived.Below
import Derived.Test.YtlcchghlhfamjaaRlmArgs
import Derived.Test.YtlcchghlhfamjaaRlmRowz
import Derived.Test.YtlcchghlhfamjaaBitsLaw
namespace Go.Proofs.Ytlcchghlhfamjaa.BitsBack
open Go.ChangeShapes Go.WideShapes Go.ChangeAt Go.RowKit Go.Rlm Go.Proofs.Ytlcchghlhfamjaa.X
set_option linter.unusedVariables false

theorem own : ownKnob Try.prog.godebug = none := by kernel_rfl
theorem laidOut : laidOutB Try.prog = true := by kernel_rfl
theorem mixed : Try.prog.follows .mixedOrders = true := by kernel_rfl
theorem named : Try.prog.funcs.all (fun fn => !(fn.name == "runtime.NumGoroutine")) = true := by kernel_rfl

theorem size34 : Try.prog.types[34].size = 2 := by kernel_rfl
theorem bytes34 : Try.prog.types[34].bytes = 16 := by kernel_rfl

theorem src_pair {L : LHeap} {u v : Value} {e : TypeId} {ro : Bool} {sp c : Nat} : srcOf (L ++ [LBlk.cells [u, v] e ro sp]) 2 1 (.slice (some ⟨L.length, 0, none⟩) 1 c) = some [u, v] := by
  simp [srcOf, srcCells, cellsAt]
  rfl

theorem pairCells_append (a b : List (Nat × Int)) : pairCells (a ++ b) = pairCells a ++ pairCells b := by
  induction a with
  | nil => rfl
  | cons p a ih => simp [pairCells, ih]

def bitsAll (ps : List (Nat × Int)) : List Bool := (ps.map fun p => bitsOf p.1 p.2.toNat).flatten
theorem bitsAll_append (a b : List (Nat × Int)) : bitsAll (a ++ b) = bitsAll a ++ bitsAll b := by simp [bitsAll]
theorem bitsAll_cons (p : Nat × Int) (a : List (Nat × Int)) : bitsAll (p :: a) = bitsOf p.1 p.2.toNat ++ bitsAll a := by simp [bitsAll]

theorem putOk_le {v : Nat} {n : Int} (h : putOk v n = true) : 0 ≤ n ∧ n ≤ 32 ∧ v < 2 ^ n.toNat := by
  simp only [putOk, Bool.and_eq_true, decide_eq_true_eq] at h
  omega

/-- The bytes' bits, packed, are the bytes. -/
theorem packs_again {vs : List Nat} {bs : List Bool} (h : Packs vs bs) : Packs vs (unpack (Rlm.strOf vs)) := by
  have h1 := packs_unpack (Rlm.strOf vs)
  have h2 : (Rlm.strOf vs).data.toList.map UInt8.toNat = vs := by
    simp only [Rlm.strOf, List.map_map]
    conv => rhs; rw [← List.map_id vs]
    refine List.map_congr_left fun x hx => ?_
    have := h.small x hx
    simp only [Function.comp, id, UInt8.toNat_ofNat']
    omega
  rwa [h2] at h1

theorem round4 {k w x y : Nat} {bs full : List Bool} {F : List Nat} {vs : List Nat} (hvs : Packs vs bs) (hfull : full = unpack (Rlm.strOf vs)) (hk : 50000 ≤ k) (hbs : bs.length ≤ 20000) :
    ∀ (m j : Nat) (r ys : List Bool) (H : List Nat) (L : LHeap), r.length = m → m < j → ys ++ r = full → BW L w bs F → BR L x r → BW L y ys H → x ∉ F → x ∉ H → Apart F H →
      ∃ L', f6_l31 k j w (some ⟨x, 0, none⟩) y L = some (.ret (.bool true) L') := by
  have hfl : full.length ≤ 20010 := by rw [hfull]; simp; have := hvs.1; omega
  intro m
  induction m with
  | zero =>
    intro j r ys H L hm hj hyr hW hX hY hxF hxH hFH
    obtain ⟨j, rfl⟩ : ∃ j', j = j' + 1 := ⟨j - 1, by omega⟩
    obtain rfl := List.eq_nil_of_length_eq_zero hm
    obtain ⟨us, q1, q2⟩ := bytes_ok (k := k) hY (by omega)
    obtain ⟨ws, q3, q4⟩ := bytes_ok (k := k) hW (by omega)
    obtain rfl := q3.unique hvs
    rw [List.append_nil] at hyr
    subst hyr
    have hl := left_ok (k := k) hX (by omega)
    rw [show (([] : List Bool).length : Int) = 0 from rfl] at hl
    subst hfull
    obtain rfl := q1.unique (packs_again hvs)
    refine ⟨L, ?_⟩
    rw [f6_l31_eq]
    simp only [hl, lbind_ret, asI_int, obind_some]
    rw [decide_eq_false (by omega)]
    simp only [lif_false, q2, q4, lbind_ret, asS_string, obind_some, BEq.rfl]
  | succ m ih =>
    intro j r ys H L hm hj hyr hW hX hY hxF hxH hFH
    obtain ⟨j, rfl⟩ : ∃ j', j = j' + 1 := ⟨j - 1, by omega⟩
    obtain ⟨c, r, rfl⟩ : ∃ c r', r = c :: r' := by cases r with
      | nil => simp at hm
      | cons c r => exact ⟨c, r, rfl⟩
    have hyl : ys.length + (c :: r).length = full.length := by rw [← hyr]; simp
    obtain ⟨L1, a1, a2, a3⟩ := take_ok (k := k) (n := 1) hX (by omega)
    have hc : takeCnt (c :: r) 1 = 1 := by unfold takeCnt; rw [if_neg (by omega), if_neg (by simp; omega)]; rfl
    have he : takeErr (c :: r) 1 = 0 := by unfold takeErr; rw [if_neg (by omega), if_neg (by simp; omega)]
    have hv : takeVal (c :: r) 1 = c.toNat := by rw [takeVal, hc, List.take_succ_cons, List.take_zero]; cases c <;> rfl
    rw [hc] at a2
    simp only [taken, hv, he] at a1
    have hW1 : BW L1 w bs F := hW.mono (a3.others hW.within (one_apart hxF))
    have hY1 : BW L1 y ys H := hY.mono (a3.others hY.within (one_apart hxH))
    have hcl := Bool.toNat_le c
    obtain ⟨L2, H2, b1, b2, b3⟩ := put_ok (k := k) (v := c.toNat) (n := 1) hY1 (by omega) (by simp at hyl; omega) (by omega)
    have hpr : putRes c.toNat 1 = 0 := by cases c <;> decide
    have hpb : putBits c.toNat 1 = [c] := by cases c <;> decide
    rw [hpr] at b1
    rw [hpb] at b2
    have hx2 : x ∉ H2 := fun h => by
      rcases b3.foot x h with q | q
      · exact hxH q
      · have := a2.lt; omega
    obtain ⟨L', e⟩ := ih j r (ys ++ [c]) H2 L2 (by simpa using hm) (by omega) (by simpa using hyr) (hW1.mono (b3.others hW1.within hFH.symm)) (a2.mono (b3.keep x a2.lt hxH)) b2 hxF hx2 (b3.apart hW1.within hFH.symm).symm
    refine ⟨L', ?_⟩
    rw [f6_l31_eq]
    simp only [left_ok hX (show 1 ≤ k by omega), lbind_ret, asI_int, obind_some]
    rw [decide_eq_true (by simp only [List.length_cons]; omega)]
    simp only [lif_true, a1, b1, lbind_ret, tupL_tuple, uncons_cons, nilL_nil, asI_int, obind_some, bne_self_eq_false, lif_false]
    exact e

theorem round3 {k w x y : Nat} {l : Sl} {zs : List Int} {A : List Nat} {bs full : List Bool} {F : List Nat} {vs : List Nat} (hl : l.n = zs.length) (h1000 : zs.length ≤ 1000) (hvs : Packs vs bs) (hfull : full = unpack (Rlm.strOf vs)) (hk : 50000 ≤ k) (hbs : bs.length ≤ 20000) :
    ∀ (m i j : Nat) (r ys : List Bool) (H : List Nat) (L : LHeap), i + m = zs.length → m < j → ys ++ r = full → BW L w bs F → BR L x r → BW L y ys H → x ∉ F → x ∉ H → Apart F H → x ∉ A → Apart H A → Inp L l 1 (zs.map (.int .i64 ·)) A →
      ∃ L', f6_l26 k j l w (some ⟨x, 0, none⟩) y (i : Int) L = some (.ret (.bool true) L') := by
  have hfl : full.length ≤ 20010 := by rw [hfull]; simp; have := hvs.1; omega
  intro m
  induction m with
  | zero =>
    intro i j r ys H L him hj hyr hW hX hY hxF hxH hFH hxA hHA hA
    obtain ⟨j, rfl⟩ : ∃ j', j = j' + 1 := ⟨j - 1, by omega⟩
    have hyl : ys.length + r.length = full.length := by rw [← hyr]; simp
    obtain ⟨L', e⟩ := round4 hvs hfull hk hbs r.length k r ys H L rfl (by omega) hyr hW hX hY hxF hxH hFH
    refine ⟨L', ?_⟩
    rw [f6_l26_eq, decide_eq_false (by omega)]
    exact e
  | succ m ih =>
    intro i j r ys H L him hj hyr hW hX hY hxF hxH hFH hxA hHA hA
    obtain ⟨j, rfl⟩ : ∃ j', j = j' + 1 := ⟨j - 1, by omega⟩
    have hyl : ys.length + r.length = full.length := by rw [← hyr]; simp
    have hi : i < zs.length := by omega
    have hg : (zs.map (Value.int .i64 ·))[i * 1]? = some (.int .i64 zs[i]) := by simp [hi]
    obtain ⟨c, i1, i2⟩ := hA.get (i := i) (by omega) (by omega)
    obtain ⟨L1, a1, a2, a3⟩ := take_ok (k := k) (n := zs[i]) hX (by omega)
    have hW1 : BW L1 w bs F := hW.mono (a3.others hW.within (one_apart hxF))
    have hY1 : BW L1 y ys H := hY.mono (a3.others hY.within (one_apart hxH))
    have hA1 : Inp L1 l 1 (zs.map (.int .i64 ·)) A := hA.mono (a3.others hA.within (one_apart hxA))
    have c0 : ∀ o, cell L ⟨c, o, none⟩ = (zs.map (Value.int .i64 ·))[o]? := i2 L fun _ _ => rfl
    have c1 : ∀ o, cell L1 ⟨c, o, none⟩ = (zs.map (Value.int .i64 ·))[o]? := i2 L1 (a3.others hA.within (one_apart hxA))
    have hvl := takeVal_lt r zs[i]
    rw [f6_l26_eq, decide_eq_true (by omega)]
    simp only [taken] at a1
    simp only [lif_true, i1, obind_some, c0, hg, Option.bind_some, asI_int, a1, lbind_ret, tupL_tuple, uncons_cons, nilL_nil]
    rw [wI64 (n := (i : Int) + 1) (by omega) (by omega)]
    by_cases he : takeErr r zs[i] = 0
    · have hn : 0 ≤ zs[i] ∧ zs[i] ≤ 32 ∧ zs[i] ≤ r.length ∧ takeCnt r zs[i] = zs[i].toNat := by
        unfold takeErr at he
        unfold takeCnt
        split at he
        · omega
        · split at he
          · omega
          · rename_i h1 h2
            rw [if_neg h1, if_neg h2]
            omega
      obtain ⟨n1, n2, n3, n4⟩ := hn
      have hlen : (r.take (takeCnt r zs[i])).length = zs[i].toNat := by rw [n4]; simp; omega
      have hlt : takeVal r zs[i] < 2 ^ zs[i].toNat := by
        have := valOf_lt (r.take (takeCnt r zs[i]))
        rwa [hlen] at this
      have hok : putOk (takeVal r zs[i]) zs[i] = true := by simp only [putOk, Bool.and_eq_true, decide_eq_true_eq]; omega
      have hpb : putBits (takeVal r zs[i]) zs[i] = r.take (takeCnt r zs[i]) := by
        rw [putBits, if_pos hok]
        have := bitsOf_valOf (r.take (takeCnt r zs[i]))
        rwa [hlen] at this
      obtain ⟨L2, H2, b1, b2, b3⟩ := put_ok (k := k) (v := takeVal r zs[i]) (n := zs[i]) hY1 hvl (by omega) (by omega)
      rw [putRes, if_pos hok] at b1
      rw [hpb] at b2
      have hx2 : x ∉ H2 := fun h => by
        rcases b3.foot x h with q | q
        · exact hxH q
        · have := a2.lt; omega
      obtain ⟨L', e⟩ := ih (i + 1) j _ _ H2 L2 (by omega) (by omega) (by rw [List.append_assoc, List.take_append_drop]; exact hyr) (hW1.mono (b3.others hW1.within hFH.symm)) (a2.mono (b3.keep x a2.lt hxH)) b2 hxF hx2 (b3.apart hW1.within hFH.symm).symm hxA
        (b3.apart hA1.within hHA) (hA1.mono (b3.others hA1.within hHA))
      refine ⟨L', ?_⟩
      rw [he]
      simp only [BEq.rfl, lif_true, c1, hg, Option.bind_some, asI_int, obind_some, b1, lbind_ret, bne_self_eq_false, lif_false]
      exact e
    · have hcn : takeCnt r zs[i] = 0 := by
        unfold takeErr at he
        unfold takeCnt
        split
        · rfl
        · rename_i h1
          rw [if_neg h1] at he
          split
          · rfl
          · rename_i h2
            rw [if_neg h2] at he
            exact absurd rfl he
      rw [hcn, List.drop_zero] at a2
      obtain ⟨L', e⟩ := ih (i + 1) j r ys H L1 (by omega) (by omega) hyr hW1 a2 hY1 hxF hxH hFH hxA hHA hA1
      refine ⟨L', ?_⟩
      rw [show (takeErr r zs[i] == 0) = false by simpa using he]
      exact e

theorem round2 {k w x : Nat} {l al : Sl} {zs : List Int} {acc : List (Nat × Int)} {A G : List Nat} {bs : List Bool} {F : List Nat} {vs : List Nat} (hl : l.n = zs.length) (h1000 : zs.length ≤ 1000) (hvs : Packs vs bs) (hk : 50000 ≤ k)
    (hbs : bs.length ≤ 20000) (hacc : bs = bitsAll acc) (hok : ∀ p ∈ acc, putOk p.1 p.2 = true) (hal : al.n = acc.length) (hal2 : acc.length ≤ 1000) :
    ∀ (m i j : Nat) (L : LHeap), i + m = acc.length → m < j → BW L w bs F → BR L x (bitsAll (acc.drop i) ++ List.replicate (8 * vs.length - bs.length) false) → OZ L al (pairCells acc) 34 2 G → x ∉ F → x ∉ G → x ∉ A → Apart F A →
      Inp L l 1 (zs.map (.int .i64 ·)) A → ∃ L', f6_l16 k j l w al (bs.length : Int) (some ⟨x, 0, none⟩) (i : Int) L = some (.ret (.bool true) L') := by
  intro m
  induction m with
  | zero =>
    intro i j L him hj hW hX hG hxF hxG hxA hFA hA
    obtain ⟨j, rfl⟩ : ∃ j', j = j' + 1 := ⟨j - 1, by omega⟩
    have h8 := hvs.1
    rw [List.drop_eq_nil_of_le (by omega), show bitsAll [] = [] from rfl, List.nil_append] at hX
    have hend : endOf (List.replicate (8 * vs.length - bs.length) false) = true := by
      simp only [endOf, List.length_replicate, Bool.and_eq_true, decide_eq_true_eq, List.all_replicate]
      refine ⟨by omega, by simp⟩
    obtain ⟨us, q1, q2⟩ := bytes_ok (k := k) hW (by omega)
    obtain rfl := q1.unique hvs
    obtain ⟨L1, a1, a2, a3⟩ := open_ok (k := k) (s := Rlm.strOf us) (L := L) (by simp; omega) (by omega)
    have hY := BW.new L1
    have s1 := Step.new [] L1 (LBlk.cells [Value.slice none 0 0, Value.int IntKind.i64 0] 26 false 0)
    have hW1 : BW L1 w bs F := hW.mono (a3.others hW.within (none_apart _))
    have hA1 : Inp L1 l 1 (zs.map (.int .i64 ·)) A := hA.mono (a3.others hA.within (none_apart _))
    have hxlt := a2.lt
    obtain ⟨L', e⟩ := round3 (k := k) (x := L.length) (y := L1.length) hl h1000 hvs rfl hk hbs zs.length 0 k (unpack (Rlm.strOf us)) [] [L1.length] _ (by omega) (by omega) rfl (hW1.mono (s1.others hW1.within (none_apart _)))
      (a2.mono (s1.keep _ hxlt (by simp))) hY (fun h => by have := hW.within _ h; omega) (by simp; omega) (s1.apart hW1.within (none_apart _)).symm (fun h => by have := hA.within _ h; omega) (s1.apart hA1.within (none_apart _)) (hA1.mono (s1.others hA1.within (none_apart _)))
    refine ⟨L', ?_⟩
    have e1 : IntKind.wrap .i64 (IntKind.wrap .i64 (8 * (us.length : Int)) - (bs.length : Int)) = ((8 * us.length - bs.length : Nat) : Int) := by
      rw [wI64 (n := 8 * (us.length : Int)) (by omega) (by omega), wI64] <;> omega
    rw [f6_l16_eq, decide_eq_false (by omega)]
    simp only [lif_false, end_ok hX (show 20 ≤ k by omega), hend, lbind_ret, asB_bool, obind_some, Bool.not_true, left_ok hX (show 1 ≤ k by omega), asI_int, q2, asS_string, strOf_size, e1, List.length_replicate, bne_self_eq_false, a1, asP_pointer]
    exact e
  | succ m ih =>
    intro i j L him hj hW hX hG hxF hxG hxA hFA hA
    obtain ⟨j, rfl⟩ : ∃ j', j = j' + 1 := ⟨j - 1, by omega⟩
    have hi : i < acc.length := by omega
    have hg : acc[i]? = some acc[i] := List.getElem?_eq_getElem hi
    obtain ⟨r1, r2⟩ := pairCells_get hg
    obtain ⟨c, i1, i2⟩ := hG.get (i := i) (by omega)
    obtain ⟨p1, p2, p3⟩ := putOk_le (hok _ (List.getElem_mem hi))
    rw [List.drop_eq_getElem_cons hi, bitsAll_cons, List.append_assoc] at hX
    generalize hp : acc[i] = p at *
    generalize hrest : bitsAll (acc.drop (i + 1)) ++ List.replicate (8 * vs.length - bs.length) false = rest at *
    have hcnt : takeCnt (bitsOf p.1 p.2.toNat ++ rest) p.2 = p.2.toNat := by unfold takeCnt; rw [if_neg (by omega), if_neg (by simp; omega)]
    have herr : takeErr (bitsOf p.1 p.2.toNat ++ rest) p.2 = 0 := by unfold takeErr; rw [if_neg (by omega), if_neg (by simp; omega)]
    have hval : takeVal (bitsOf p.1 p.2.toNat ++ rest) p.2 = p.1 := by
      rw [takeVal, hcnt, List.take_left' (by simp), valOf_bitsOf, Nat.mod_eq_of_lt p3]
    obtain ⟨L1, a1, a2, a3⟩ := take_ok (k := k) (n := p.2) hX (by omega)
    simp only [taken, hval, herr] at a1
    rw [hcnt, List.drop_left' (by simp)] at a2
    have c0 : ∀ o, cell L ⟨c, o, none⟩ = (pairCells acc)[o]? := i2 L fun _ _ => rfl
    have c1 : ∀ o, cell L1 ⟨c, o, none⟩ = (pairCells acc)[o]? := i2 L1 (a3.others hG.within (one_apart hxG))
    obtain ⟨L', e⟩ := ih (i + 1) j L1 (by omega) (by omega) (hW.mono (a3.others hW.within (one_apart hxF))) (by rw [hrest]; exact a2) (hG.mono (a3.others hG.within (one_apart hxG))) hxF hxG hxA hFA (hA.mono (a3.others hA.within (one_apart hxA)))
    refine ⟨L', ?_⟩
    rw [f6_l16_eq, decide_eq_true (by omega)]
    simp only [lif_true, i1, mk_add, Nat.add_zero, c0, c1, r1, r2, Option.bind_some, asI_int, obind_some, a1, lbind_ret, tupL_tuple, uncons_cons, nilL_nil, bne_self_eq_false, lif_false]
    rw [wI64 (n := (i : Int) + 1) (by omega) (by omega)]
    exact e

theorem round1 {k w : Nat} {l l1 : Sl} {ps : List (Nat × Int)} {zs : List Int} {A B : List Nat} (hp : ∀ p ∈ ps, p.1 < 4294967296) (hl : l.n = ps.length) (h400 : ps.length ≤ 400) (hl1 : l1.n = zs.length) (h1000 : zs.length ≤ 1000) (hk : 50000 ≤ k) :
    ∀ (m i j : Nat) (acc : List (Nat × Int)) (al : Sl) (F G : List Nat) (L : LHeap), i + m = ps.length → m < j → acc.length ≤ i → (bitsAll acc).length ≤ 32 * i → (∀ p ∈ acc, putOk p.1 p.2 = true) → BW L w (bitsAll acc) F → OZ L al (pairCells acc) 34 2 G →
      Apart F G → Apart F A → Apart F B → Apart G A → Apart G B → Inp L l 2 (pairCells ps) A → Inp L l1 1 (zs.map (.int .i64 ·)) B →
      ∃ L', f6_l7 k j l l1 w al ((bitsAll acc).length : Int) (i : Int) L = some (.ret (.bool true) L') := by
  intro m
  induction m with
  | zero =>
    intro i j acc al F G L him hj hac hbl hok hW hG hFG hFA hFB hGA hGB hA hB
    obtain ⟨j, rfl⟩ : ∃ j', j = j' + 1 := ⟨j - 1, by omega⟩
    have haln : al.n = acc.length := by have := hG.1; simp at this; omega
    obtain ⟨vs, q1, q2⟩ := bytes_ok (k := k) hW (by omega)
    have h8 := q1.1
    obtain ⟨L1, a1, a2, a3⟩ := open_ok (k := k) (s := Rlm.strOf vs) (L := L) (by simp; omega) (by omega)
    rw [q1.unpack] at a2
    have hB1 : Inp L1 l1 1 (zs.map (.int .i64 ·)) B := hB.mono (a3.others hB.within (none_apart _))
    obtain ⟨L', e⟩ := round2 (k := k) (x := L.length) hl1 h1000 q1 hk (by omega) rfl hok haln (by omega) acc.length 0 k L1 (by omega) (by omega) (hW.mono (a3.others hW.within (none_apart _))) (by simpa using a2)
      (hG.mono (a3.others hG.within (none_apart _))) (fun h => by have := hW.within _ h; omega) (fun h => by have := hG.within _ h; omega) (fun h => by have := hB.within _ h; omega) hFB hB1
    refine ⟨L', ?_⟩
    have e1 : IntKind.wrap .i64 (Int.tdiv (IntKind.wrap .i64 (((bitsAll acc).length : Int) + 7)) 8) = (vs.length : Int) := by
      rw [wI64 (n := ((bitsAll acc).length : Int) + 7) (by omega) (by omega), show ((bitsAll acc).length : Int) + 7 = (((bitsAll acc).length + 7 : Nat) : Int) by omega, show (8 : Int) = ((8 : Nat) : Int) from rfl, tdiv_nat, wI64] <;> omega
    rw [f6_l7_eq, decide_eq_false (by omega)]
    simp only [lif_false, bits_ok hW (show 1 ≤ k by omega), lbind_ret, asI_int, obind_some, bne_self_eq_false, q2, asS_string, strOf_size, e1, a1, asP_pointer]
    exact e
  | succ m ih =>
    intro i j acc al F G L him hj hac hbl hok hW hG hFG hFA hFB hGA hGB hA hB
    obtain ⟨j, rfl⟩ : ∃ j', j = j' + 1 := ⟨j - 1, by omega⟩
    have haln : al.n = acc.length := by have := hG.1; simp at this; omega
    have hi : i < ps.length := by omega
    have hg : ps[i]? = some ps[i] := List.getElem?_eq_getElem hi
    have hv : ps[i].1 < 4294967296 := hp _ (List.getElem_mem hi)
    obtain ⟨r1, r2⟩ := pairCells_get hg
    obtain ⟨c, i1, i2⟩ := hA.get (i := i) (by omega) (by omega)
    obtain ⟨L1, F1, a1, a2, a3⟩ := put_ok (k := k) (v := ps[i].1) (n := ps[i].2) hW hv (by omega) (by omega)
    have hG1 : OZ L1 al (pairCells acc) 34 2 G := hG.mono (a3.others hG.within hFG)
    have ap1 := a3.apart hG.within hFG
    have hA1 : Inp L1 l 2 (pairCells ps) A := hA.mono (a3.others hA.within hFA)
    have hB1 : Inp L1 l1 1 (zs.map (.int .i64 ·)) B := hB.mono (a3.others hB.within hFB)
    have hFA1 := a3.apart hA.within hFA
    have hFB1 := a3.apart hB.within hFB
    have c0 : ∀ o, cell L ⟨c, o, none⟩ = (pairCells ps)[o]? := i2 L fun _ _ => rfl
    have c1 : ∀ o, cell L1 ⟨c, o, none⟩ = (pairCells ps)[o]? := i2 L1 (a3.others hA.within hFA)
    rw [f6_l7_eq, decide_eq_true (by omega)]
    simp only [lif_true, i1, mk_add, Nat.add_zero, c0, c1, r1, r2, Option.bind_some, asI_int, obind_some, a1, lbindR_ret]
    rw [wI64 (n := (i : Int) + 1) (by omega) (by omega)]
    generalize hpp : ps[i] = p at *
    have hple := putBits_le p.1 p.2
    by_cases ok : putOk p.1 p.2 = true
    · obtain ⟨p1, p2, p3⟩ := putOk_le ok
      obtain ⟨al', L2, G2, b1, b2, b3, b4⟩ := (hG1.mono (L' := L1 ++ [LBlk.cells [.int .u32 (p.1 : Int), .int .i64 p.2] 34 false 0]) fun i hi => get_push (hG1.within i hi)).app [.int .u32 (p.1 : Int), .int .i64 p.2] 1 16 (by omega) rfl (by rw [haln]; omega) (by rw [haln]; omega)
      have st : Step G L1 G2 L2 := (Step.push G L1 _).trans b4
      have c2 : ∀ o, cell L2 ⟨c, o, none⟩ = (pairCells ps)[o]? := i2 L2 fun y hy => by rw [st.others hA1.within hGA y hy, a3.others hA.within hFA y hy]
      have hba : bitsAll (acc ++ [p]) = bitsAll acc ++ putBits p.1 p.2 := by rw [bitsAll_append, putBits, if_pos ok]; simp [bitsAll]
      obtain ⟨L', e⟩ := ih (i + 1) j (acc ++ [p]) al' F1 G2 L2 (by omega) (by omega) (by simp; omega) (by rw [hba]; simp; omega) (fun q hq => by rcases List.mem_append.1 hq with hq | hq; exact hok q hq; simp at hq; rw [hq]; exact ok)
        (by rw [hba]; exact a2.mono (st.others a2.within ap1.symm)) (by rw [pairCells_append]; exact b2) (st.apart a2.within ap1.symm).symm hFA1 hFB1 (st.apart hA1.within hGA) (st.apart hB1.within hGB) (hA1.mono (st.others hA1.within hGA)) (hB1.mono (st.others hB1.within hGB))
      refine ⟨L', ?_⟩
      have e1 : IntKind.wrap .i64 (((bitsAll acc).length : Int) + p.2) = ((bitsAll (acc ++ [p])).length : Int) := by
        rw [hba, putBits, if_pos ok, List.length_append, bitsOf_length, wI64] <;> omega
      rw [putRes, if_pos ok]
      simp only [BEq.rfl, lif_true, size34, bytes34, src_pair, obind_some, b1, c2, r2, Option.bind_some, asI_int, e1]
      exact e
    · have hba : bitsAll acc ++ putBits p.1 p.2 = bitsAll acc := by rw [putBits, if_neg ok, List.append_nil]
      rw [hba] at a2
      obtain ⟨L', e⟩ := ih (i + 1) j acc al F1 G L1 (by omega) (by omega) (by omega) (by omega) hok a2 hG1 ap1 hFA1 hFB1 hGA hGB hA1 hB1
      refine ⟨L', ?_⟩
      rw [putRes, if_neg ok]
      exact e

theorem run {l l1 : Sl} {ps : List (Nat × Int)} {zs : List Int} {A B : List Nat} {L : LHeap} (hp : ∀ p ∈ ps, p.1 < 4294967296) (hl : l.n = ps.length) (hl1 : l1.n = zs.length) (hA : Inp L l 2 (pairCells ps) A) (hB : Inp L l1 1 (zs.map (.int .i64 ·)) B) :
    ∃ L', lcall Try.prog X.T 50001 6 [.slice l.a l.n l.c, .slice l1.a l1.n l1.c] L = some (.ret (.bool true) L') := by
  show ∃ L', f6 50001 l l1 L = _
  rw [f6_eq]
  obtain ⟨L1, w1, w2⟩ := works_ok (k := 50000) (L := L) (by omega)
  obtain ⟨L2, w3, w4⟩ := works_ok (k := 50000) (L := L1) (by omega)
  simp only [w1, w3, lbind_ret, asB_bool, obind_some, Bool.not_true, lif_false]
  by_cases h : ps.length > 400
  · rw [decide_eq_true (by omega)]; exact ⟨L2, rfl⟩
  by_cases h2 : zs.length > 1000
  · rw [decide_eq_false (by omega), decide_eq_true (by omega)]; exact ⟨L2, rfl⟩
  rw [decide_eq_false (by omega), decide_eq_false (by omega)]
  simp only [lif_false]
  have hA1 : Inp L1 l 2 (pairCells ps) A := hA.mono (w2.others hA.within (none_apart _))
  have hB1 : Inp L1 l1 1 (zs.map (.int .i64 ·)) B := hB.mono (w2.others hB.within (none_apart _))
  have hF := BW.new L1
  have s1 := Step.new [] L1 (LBlk.cells [Value.slice none 0 0, Value.int IntKind.i64 0] 26 false 0)
  generalize L1 ++ [LBlk.cells [Value.slice none 0 0, Value.int IntKind.i64 0] 26 false 0] = M1 at *
  exact round1 hp hl (by omega) hl1 (by omega) (by omega) ps.length 0 50000 [] ⟨none, 0, 0⟩ _ [] M1 (by omega) (by omega) (by simp) (by simp [bitsAll]) (by simp) hF (OZ.nil _ _ (by omega)) (none_apart _).symm
    (s1.apart hA1.within (none_apart _)) (s1.apart hB1.within (none_apart _)) (none_apart _) (none_apart _) (hA1.mono (s1.others hA1.within (none_apart _))) (hB1.mono (s1.others hB1.within (none_apart _)))

theorem walk {w : World} {a b : Option Addr} {len cap len1 cap1 : Nat} {zs : List (Nat × Int)} {ys : List Int} (hl : zs.length = len) (hc : IsCells w a len cap 2 (pairCells zs)) (hz : ∀ p ∈ zs, p.1 < 4294967296)
    (hl1 : ys.length = len1) (hc1 : IsCells w b len1 cap1 1 (ys.map (.int .i64 ·))) (hz1 : ∀ n ∈ ys, (Lit.int .i64 n).wf = true) :
    Calls Try.prog 6 #[.slice a len cap, .slice b len1 cap1] w fun e w' => e = .returned (.bool true) ∧ Below w.heap.size w w' := by
  obtain ⟨m, L, l, A, _, hr, hno, hv, hi, hn, _, _⟩ := (Rep.empty (P := Try.prog) (w := w)).arg (fun _ => own_nil) hc (pairCells_flat zs)
  obtain ⟨m', L', l', B, he, hr', hno', hv', hi', hn', hk, _⟩ := hr.arg hno hc1 (ints_flat _ ys)
  obtain ⟨L'', h⟩ := run hz (by omega) (by omega) (hi.mono fun i hA => hk i (hi.within i hA)) hi'
  exact law_walk mixed named h hr' (.cons (hv.mono he) (.cons hv' .nil)) hno'

set_option maxRecDepth 100000 in
theorem lifted (os : Os) (started : os.Started) (H : Type) (enc : TypeId × Value → H) :
    ReturnsInHanded {} Try.checked os 6 .any (Rows.bitsBackSpec.pre6 enc Try.prog Try.f6 Rows.bitsBackRow.domain false) (Rows.bitsBackSpec.post enc Try.prog Try.f6 false true false false) := by
  refine returnsInHanded_of_change (C := Try.checked) own started (by kernel_rfl) Try.func6
    (ChangeSpec.witness6 (enc := enc) (C := Try.checked) false ⟨#[], #[.slice none 0 0, .slice none 0 0], []⟩ 8 (by kernel_rfl) (by kernel_rfl) (by kernel_rfl) (by kernel_rfl)) ?_
  intro W base args ds gs before hval0 hW hcnd _
  have hval : ∀ (j : Nat) t v, Try.f6.params[j]? = some t → args[j]? = some v → Value.okWide Try.prog W .any base t v := hval0
  have hW' := hW
  obtain ⟨p, q, hA0, hV, rfl, hfz, hnd⟩ := hW
  have hA : DataW.TrodAll enc Try.prog W 0 (fun _ => true) true Try.f6.params.toList args.toList ds p := hA0
  rw [Try.params6] at hA hval
  obtain ⟨v0, vs0, d0, ds0, p0, q0, hargs, rfl, rfl, h0, r0⟩ := trodAll_cons hA
  obtain ⟨v1, vs1, d1, ds1, p1, q1, rfl, rfl, rfl, h1, r1⟩ := trodAll_cons r0
  obtain ⟨rfl, rfl, rfl⟩ := trodAll_nil r1
  obtain rfl : args = #[v0, v1] := by cases args; simp_all
  obtain ⟨rfl, rfl⟩ := trodVars_none hV
  obtain ⟨a0, len0, cap0, rfl⟩ := okWide_slice Try.underlying22 (hval 0 22 v0 rfl rfl)
  have k0 := h0
  have lt0 : ∀ x ∈ p0, x.block < W.heap.size := by obtain ⟨m, hm⟩ := k0; exact DataW.trod_lt m _ _ _ hm
  obtain ⟨z0, l0, w0, u0⟩ := open_pairs Try.underlying22 Try.underlying34 (by kernel_rfl) rfl rfl (by kernel_rfl) (by kernel_rfl) Try.underlying32 Try.underlying3 h0
  obtain ⟨a1, len1, cap1, rfl⟩ := okWide_slice Try.underlying38 (hval 1 38 v1 rfl rfl)
  have k1 := h1
  have lt1 : ∀ x ∈ p1, x.block < W.heap.size := by obtain ⟨m, hm⟩ := k1; exact DataW.trod_lt m _ _ _ hm
  obtain ⟨z1, l1, w1, u1⟩ := open_cells Try.underlying38 Try.underlying3 (by kernel_rfl) h1
  clear hA0 hval0
  refine (walk l0 w0 u0 l1 w1 u1).mono fun e W' ⟨he, bel⟩ => ?_
  subst he
  exact ⟨_, rfl, _, _, _, [], _, [], hW', trodAll_mk1 (shut_bool Try.underlying4 _), (trodAll_cons_mk (Below.trod laidOut (by kernel_rfl) (of_decide_eq_true (by kernel_rfl)) k0 bel lt0) (trodAll_cons_mk (Below.trod laidOut (by kernel_rfl) (of_decide_eq_true (by kernel_rfl)) k1 bel lt1) trodAll_mk0)), rfl, bel.frame _, fun h => by cases h⟩

theorem over : Rows.bitsBackRow.holds Try.pinned (OpenSpec.ofChange Rows.bitsBackSpec) :=
  OpenClaim.holds_of_wide 6 Try.f6 rfl rfl rfl rfl rfl rfl rfl ⟨rfl, rfl, rfl, rfl, rfl⟩ rfl rfl rfl rfl rfl (by kernel_rfl) Try.func6 (by kernel_rfl)
    (of_decide_eq_true (by kernel_rfl)) (by unfold Func.isWrapper; first | (rw [if_pos (by decide +kernel)]; kernel_rfl) | (rw [if_neg (by decide +kernel)]; exact ⟨rfl, rfl⟩))
    (fun os started H enc _ => lifted os started H enc)

end Go.Proofs.Ytlcchghlhfamjaa.BitsBack
namespace Go.Proofs.Ytlcchghlhfamjaa

/-- The statement. -/
theorem bitsBack_holds : Rows.BitsBackSaid := BitsBack.over

end Go.Proofs.Ytlcchghlhfamjaa
#print axioms Go.Proofs.Ytlcchghlhfamjaa.bitsBack_holds

/- What is proved: 'Rows.PressNamesSaid': the closed law PressNames returns true. No conditions. The law's printed form is run over the contracts of what it calls; the model follows the logical machine (RlmS18). -/
import Derived.Test.YtflhogapjmdkaaaRows
import Derived.WalkKit
import Derived.ProofKit
import Derived.OpenShut
import Derived.ShutString
import Derived.ChangeOld
import Derived.Below
import Derived.Test.YtflhogapjmdkaaaPressNamesM5
namespace Go.Proofs.Ytflhogapjmdkaaa.PressNames
set_option maxRecDepth 100000
open Go.ChangeShapes Go.WideShapes Go.ChangeAt Go.RowKit Go.Rlm Go.Proofs.Ytflhogapjmdkaaa.X
set_option linter.unusedVariables false

theorem own : ownKnob Try.prog.godebug = none := by kernel_rfl
theorem laidOut : laidOutB Try.prog = true := by kernel_rfl
theorem mixed : Try.prog.follows .mixedOrders = true := by kernel_rfl
theorem named : Try.prog.funcs.all (fun fn => !(fn.name == "runtime.NumGoroutine")) = true := by kernel_rfl

def ham : ByteArray := ⟨#[104, 97, 109, 112, 101, 114, 32]⟩
def hamT : List Tok := [⟨1, 104, 0, 0, 0⟩, ⟨1, 97, 0, 0, 0⟩, ⟨1, 109, 0, 0, 0⟩, ⟨1, 112, 0, 0, 0⟩, ⟨1, 101, 0, 0, 0⟩, ⟨1, 114, 0, 0, 0⟩, ⟨1, 32, 0, 0, 0⟩, ⟨2, 0, 258, 7, 0⟩, ⟨3, 0, 258, 0, 0⟩, ⟨3, 0, 258, 0, 0⟩, ⟨3, 0, 258, 0, 0⟩, ⟨3, 0, 258, 0, 0⟩,
  ⟨3, 0, 258, 0, 0⟩, ⟨3, 0, 258, 0, 0⟩, ⟨3, 0, 258, 0, 0⟩, ⟨3, 0, 29, 0, 0⟩]
theorem ham_bytes : bytesL ham = [104, 97, 109, 112, 101, 114, 32] := rfl
theorem ham_toks : findToks (repL 300 [104, 97, 109, 112, 101, 114, 32]) = hamT := by
  rw [findToks_rep (by decide) (by decide) (by decide)]
  decide +kernel
theorem ham_pack : (packB hamT).length < 300 ∧ packB hamT ≠ [] := by decide +kernel
theorem none_unpack : unpackB [] = none := by decide +kernel

theorem run {k : Nat} {L : LHeap} (hk : 9000 ≤ k) : ∃ L', lcall Try.prog T k 10 [] L = some (.ret (.bool true) L') := by
  show ∃ L', f10 k L = _
  obtain ⟨k, rfl⟩ : ∃ k', k = k' + 1 := ⟨k - 1, by omega⟩
  rw [f10_eq]
  obtain ⟨L1, a1, a2⟩ := works_ok (k := k) (L := L) (by omega)
  rw [a1, lbind_ret, asB_bool, obind_some, Bool.not_true, lif_false]
  have hmany : ∀ L, f23 k 300 (ByteArray.mk #[104, 97, 109, 112, 101, 114, 32]) L = some (.ret (.string (repS 300 ham)) L) := fun L => many_ok (k := k) (n := 300) (s := ham) (L := L) (by show 300 * 7 < _; omega) (by omega) (by omega)
  have hS : bytesL (repS 300 ham) = repL 300 [104, 97, 109, 112, 101, 114, 32] := bytesL_strOf (repL_small (bytesL_lt ham))
  have hSz : (repS 300 ham).size = 2100 := by rw [← bytesL_len, hS, repL_length]; rfl
  rw [hmany, lbind_ret, asS_string, obind_some]
  obtain ⟨L2, b1, b2⟩ := press_ok (k := k) (s := repS 300 ham) (L := L1) (by omega) (by omega)
  rw [b1, lbind_ret, asS_string, obind_some]
  have hsm := bytesL_lt (repS 300 ham)
  have hlen := bytesL_len (repS 300 ham)
  have hfit := findToks_fit hsm (by omega)
  have hup := unpack_pack hfit (findToks_shape hsm)
  have htxt := fun l => textOf_find (bytesL (repS 300 ham)) l
  have hpl := pressL_small hsm (by omega)
  have hP : pressL (bytesL (repS 300 ham)) = 1 :: packB hamT := by
    unfold pressL
    rw [hS, ham_toks, if_pos (by have := ham_pack.1; rw [repL_length]; simp only [List.length_cons, List.length_nil]; omega)]
  have hne : bytesL (repS 300 ham) ≠ [] := fun h => by rw [h] at hlen; simp at hlen; omega
  obtain ⟨hq1, hq2⟩ := ham_pack
  have hPS : pressS (repS 300 ham) = strOf (1 :: packB hamT) := by unfold pressS; rw [hP]
  rw [hP] at hpl
  rw [hS, ham_toks] at hup
  rw [hS, ham_toks] at htxt
  rw [← hS, hlen, hSz] at htxt
  simp only [hne, or_false] at htxt
  rw [hPS]
  generalize packB hamT = B at *
  have hB : ∀ x ∈ B, x < 256 := fun x hx => hpl x (by simp [hx])
  have hstr : strOf (bytesL (repS 300 ham)) = repS 300 ham := strOf_bytesL _
  -- OK, and too little room
  obtain ⟨L3, c1, c2⟩ := expand_toks (k := k) (limit := 2100) (L := L2) hB hup (by omega) (by omega)
  rw [htxt, if_pos (by omega), hstr] at c1
  rw [c1, lbind_ret, tupL_tuple, obind_some, uncons_cons, asS_string, obind_some, uncons_cons, asI_int, obind_some, nilL_nil, fuel_pos (by omega), f10_c5_eq]
  obtain ⟨L4, d1, d2⟩ := expand_toks (k := k) (limit := 2099) (L := L3) hB hup (by omega) (by omega)
  rw [htxt, if_neg (by omega)] at d1
  rw [d1, lbind_ret, tupL_tuple, obind_some, uncons_cons, asS_string, obind_some, uncons_cons, asI_int, obind_some, nilL_nil]
  obtain ⟨L5, e1, e2⟩ := expand_toks (k := k) (limit := -1) (L := L4) hB hup (by omega) (by omega)
  rw [htxt, if_neg (by omega)] at e1
  rw [e1, lbind_ret, tupL_tuple, obind_some, uncons_cons, asS_string, obind_some, uncons_cons, asI_int, obind_some, nilL_nil, fuel_pos (by omega), f10_c7_eq]
  -- a byte less, a byte more
  have hsz : (strOf (1 :: B)).size = B.length + 1 := by rw [strOf_size]; rfl
  have hsub : subS (strOf (1 :: B)) none (some (IntKind.wrap .i64 (((strOf (1 :: B)).size : Int) - 1))) = some (strOf (1 :: B.dropLast)) := by
    rw [hsz, wI64 (by omega) (by omega), show ((B.length + 1 : Nat) : Int) - 1 = ((B.length : Nat) : Int) by omega]
    simp only [subS, bound_at (strOf (1 :: B)).size (show B.length ≤ (strOf (1 :: B)).size by omega), bound_out (Nat.zero_le _), Option.bind_eq_bind, Option.bind_some]
    rw [strOf_extract hpl, List.drop_zero, Nat.sub_zero, List.dropLast_eq_take]
    obtain ⟨m, hm⟩ : ∃ m, B.length = m + 1 := ⟨B.length - 1, by cases B with | nil => exact absurd rfl hq2 | cons _ _ => simp⟩
    rw [hm, List.take_succ_cons, Nat.add_sub_cancel]
  obtain ⟨L6, g1, g2⟩ := expand_bad (k := k) (b := B.dropLast) (limit := 9999) (L := L5) (fun x hx => hB x (List.dropLast_subset B hx)) (unpack_shorter hup hq2) (by simp; omega) (by simp; omega)
  rw [hsub, obind_some, g1, lbind_ret, tupL_tuple, obind_some, uncons_cons, asS_string, obind_some, uncons_cons, asI_int, obind_some, nilL_nil, fitsS_ok (by rw [hsz]; show B.length + 1 + 1 < _; omega), when_true]
  obtain ⟨L7, h1, h2⟩ := expand_bad (k := k) (b := B ++ [0]) (limit := 9999) (L := L6) (fun x hx => by
    rcases List.mem_append.1 hx with hx | hx
    · exact hB x hx
    · simp at hx; omega) (unpack_longer hup 0) (by simp; omega) (by simp; omega)
  rw [show strOf (1 :: B) ++ ByteArray.mk #[0] = strOf (1 :: (B ++ [0])) from strOf_app (1 :: B) [0], h1, lbind_ret, tupL_tuple, obind_some, uncons_cons, asS_string, obind_some, uncons_cons, asI_int, obind_some, nilL_nil, fuel_pos (by omega), f10_c9_eq]
  obtain ⟨L8, i1, i2⟩ := expand_bad (k := k) (b := []) (limit := 9999) (L := L7) (by simp) none_unpack (by simp) (by simp; omega)
  have i1 : f24 k (ByteArray.mk #[1]) 9999 L7 = _ := i1
  rw [i1, lbind_ret, tupL_tuple, obind_some, uncons_cons, asS_string, obind_some, uncons_cons, asI_int, obind_some, nilL_nil]
  have j1 : f24 k (ByteArray.mk #[0]) (-1) L8 = _ := expand_stored (k := k) (b := []) (limit := -1) (L := L8) (by simp) (by omega)
  rw [if_pos (by simp)] at j1
  rw [j1, lbind_ret, tupL_tuple, obind_some, uncons_cons, asS_string, obind_some, uncons_cons, asI_int, obind_some, nilL_nil, fuel_pos (by omega), f10_c11_eq]
  have k1 : f24 k (ByteArray.mk #[0]) 0 L8 = _ := expand_stored (k := k) (b := []) (limit := 0) (L := L8) (by simp) (by omega)
  rw [if_neg (by simp)] at k1
  rw [k1, lbind_ret, tupL_tuple, obind_some, uncons_cons, asS_string, obind_some, uncons_cons, asI_int, obind_some, nilL_nil, fuel_pos (by omega), f10_c12_eq, hsz, decide_eq_true (by omega), lif_true]
  have hby : byteAt (strOf (1 :: B)) 0 = some 1 := by
    obtain ⟨y, y1, y2, y3⟩ := bytesL_at (s := strOf (1 :: B)) (i := 0) (by omega)
    rw [bytesL_strOf hpl] at y1
    simp at y1
    subst y1
    exact y2
  rw [hby, obind_some, show ((1 : Int) == 1) = true from rfl, lif_true, hmany, lbind_ret, asS_string, obind_some, toList_beq, decide_eq_true rfl, lif_true, show ((0 : Int) == 0) = true from rfl, lif_true, show ((62 : Int) == 62) = true from rfl, lif_true, lif_true, show ((4 : Int) == 4) = true from rfl,
    lif_true, lif_true, lif_true, lif_true, toList_beq, decide_eq_true (show Go.Rlm.strOf [] = ByteArray.mk #[] from rfl), lif_true]
  exact ⟨L8, rfl⟩

theorem walk {w : World} : Calls Try.prog 10 #[] w fun e w' => e = .returned (.bool true) ∧ Below w.heap.size w w' := by
  obtain ⟨L', h⟩ := run (k := 9000) (L := []) (by omega)
  exact law_walk specOk mixed named h Rep.empty .nil fun _ => own_nil

set_option maxRecDepth 100000 in
theorem lifted (os : Os) (started : os.Started) (H : Type) (enc : TypeId × Value → H) :
    ReturnsInHanded {} Try.checked os 10 .any (Rows.pressNamesSpec.pre6 enc Try.prog Try.f10 Rows.pressNamesRow.domain false) (Rows.pressNamesSpec.post enc Try.prog Try.f10 false true false false) := by
  refine returnsInHanded_of_change (C := Try.checked) own started (by kernel_rfl) Try.func10
    (ChangeSpec.witness6 (enc := enc) (C := Try.checked) false ⟨#[], #[], []⟩ 8 (by kernel_rfl) (by kernel_rfl) (by kernel_rfl) (by kernel_rfl)) ?_
  intro W base args ds gs before hval0 hW hcnd _
  have hW' := hW
  obtain ⟨p, q, hA0, hV, rfl, hfz, hnd⟩ := hW
  have hA : DataW.TrodAll enc Try.prog W 0 (fun _ => true) true Try.f10.params.toList args.toList ds p := hA0
  rw [Try.params10] at hA
  obtain ⟨rfl, rfl, rfl⟩ := trodAll_none hA
  obtain ⟨rfl, rfl⟩ := trodVars_none hV
  clear hA0 hval0
  refine (walk (w := W)).mono fun e W' ⟨he, bel⟩ => ?_
  subst he
  exact ⟨_, rfl, _, _, _, [], _, [], hW', trodAll_mk1 (shut_bool Try.underlying4 _), trodAll_mk0, rfl, bel.frame _, fun h => by cases h⟩

theorem over : Rows.pressNamesRow.holds Try.pinned (OpenSpec.ofChange Rows.pressNamesSpec) :=
  OpenClaim.holds_of_wide 10 Try.f10 rfl rfl rfl rfl rfl rfl rfl ⟨rfl, rfl, rfl, rfl, rfl⟩ rfl rfl rfl rfl rfl (by kernel_rfl) Try.func10 (by kernel_rfl)
    (of_decide_eq_true (by kernel_rfl)) (by unfold Func.isWrapper; first | (rw [if_pos (by decide +kernel)]; kernel_rfl) | (rw [if_neg (by decide +kernel)]; exact ⟨rfl, rfl⟩))
    (fun os started H enc _ => lifted os started H enc)

end Go.Proofs.Ytflhogapjmdkaaa.PressNames
namespace Go.Proofs.Ytflhogapjmdkaaa

/-- The statement. -/
theorem pressNames_holds : Rows.PressNamesSaid := PressNames.over

end Go.Proofs.Ytflhogapjmdkaaa
#print axioms Go.Proofs.Ytflhogapjmdkaaa.pressNames_holds

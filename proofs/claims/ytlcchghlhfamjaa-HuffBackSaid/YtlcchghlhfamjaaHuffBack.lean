/- What is proved: 'Rows.HuffBackSaid': whatever comes in, the law HuffBack returns true and leaves it as it was. No conditions. The law's printed form is run over the contracts of what it calls; the model follows the logical machine (RlmS18). -/
import Derived.Test.YtlcchghlhfamjaaRows
import Derived.WalkKit
import Derived.ProofKit
import Derived.OpenShut
import Derived.ShutString
import Derived.ChangeOld
import Derived.Below
import Derived.Test.YtlcchghlhfamjaaRlmArgs
import Derived.Test.YtlcchghlhfamjaaHuffTake
namespace Go.Proofs.Ytlcchghlhfamjaa.HuffBack
open Go.ChangeShapes Go.WideShapes Go.ChangeAt Go.RowKit Go.Rlm Go.Proofs.Ytlcchghlhfamjaa.X
set_option linter.unusedVariables false

theorem own : ownKnob Try.prog.godebug = none := by kernel_rfl
theorem laidOut : laidOutB Try.prog = true := by kernel_rfl
theorem mixed : Try.prog.follows .mixedOrders = true := by kernel_rfl
theorem named : Try.prog.funcs.all (fun fn => !(fn.name == "runtime.NumGoroutine")) = true := by kernel_rfl

def symsBits (zs : List Int) (ps : List Nat) : List Bool := ps.flatMap (symBits zs)

theorem round2 {k b x : Nat} {l : Sl} {zs : List Int} {ps F P : List Nat} {pad : List Bool} (hm : may zs = true) (hxF : x ∉ F) (hxP : x ∉ P) (hps : ∀ p ∈ ps, p < zs.length ∧ 0 < zs.getD p 0) (hpl : ps.length < 2 ^ 40) (hk : 100 ≤ k) :
    ∀ (m i j : Nat) (L : LHeap), i + m = ps.length → m < j → CO L b zs F → BR L x (symsBits zs (ps.drop i) ++ pad) → Rd L l (ps.map kV) P →
      ∃ L', f16_l22 k j (some ⟨b, 0, none⟩) l (some ⟨x, 0, none⟩) (i : Int) L = some (.ret (.bool true) L') := by
  intro m
  induction m with
  | zero =>
    intro i j L hi hj hC hX hP
    obtain ⟨j, rfl⟩ : ∃ j', j = j' + 1 := ⟨j - 1, by omega⟩
    have hn := hP.len
    simp only [List.length_map] at hn
    refine ⟨L, ?_⟩
    rw [f16_l22_eq, decide_eq_false (by omega)]
    rfl
  | succ m ih =>
    intro i j L hi hj hC hX hP
    obtain ⟨j, rfl⟩ : ∃ j', j = j' + 1 := ⟨j - 1, by omega⟩
    have hn := hP.len
    simp only [List.length_map] at hn
    have hiz : i < ps.length := by omega
    obtain ⟨q1, q2⟩ := hps _ (List.getElem_mem hiz)
    rw [List.drop_eq_getElem_cons hiz, symsBits, List.flatMap_cons, List.append_assoc] at hX
    have hg : zs.getD ps[i] 0 = zs[ps[i]] := by rw [List.getD_eq_getElem?_getD, List.getElem?_eq_getElem q1]; rfl
    obtain ⟨L1, a1, a2, a3⟩ := ctake_ok (k := k) hC hm hX hxF (by omega)
    have hdec := readSym_code hm q1 (by omega) (symsBits zs (ps.drop (i + 1)) ++ pad)
    rw [symsBits] at hdec
    rw [hdec] at a1 a2
    have hP1 := hP.mono (a3.others hP.within (one_apart hxP))
    obtain ⟨c, c1, c2⟩ := hP1.here (i := i) (v := kV ps[i]) (by simp [hiz])
    obtain ⟨L2, e⟩ := ih (i + 1) j L1 (by omega) (by omega) (hC.mono (a3.others hC.within (one_apart hxF)) a3.len) a2 hP1
    refine ⟨L2, ?_⟩
    rw [f16_l22_eq, decide_eq_true (by omega)]
    simp only [lif_true, a1, lbind_ret, tupL_tuple, uncons_cons, nilL_nil, asI_int, obind_some, decSym, decErr, bne_self_eq_false, lif_false, c1, c2, kV, Option.bind_some]
    rw [wI64 (n := (i : Int) + 1) (by omega) (by omega)]
    exact e

/-- What stands behind the loop. -/
theorem behind {k b w : Nat} {l : Sl} {zs : List Int} {ps F G P : List Nat} {L : LHeap} (hm : may zs = true) (hps : ∀ p ∈ ps, p < zs.length ∧ 0 < zs.getD p 0) (hpl : ps.length ≤ 300) (hk : 1000 ≤ k)
    (hC : CO L b zs F) (hW : BW L w (symsBits zs ps) G) (hP : Rd L l (ps.map kV) P) (hb : (symsBits zs ps).length ≤ 10000) :
    ∃ L', (lbind (f22 k (some ⟨w, 0, none⟩) L) fun v15 L16 => obind (asS v15) fun s17 => lbind (f24 k s17 L16) fun v18 L19 => obind (asP v18) fun x20 => f16_l22 k k (some ⟨b, 0, none⟩) l x20 0 L19) = some (.ret (.bool true) L') := by
  obtain ⟨vs, q1, q2⟩ := bytes_ok (k := k) hW (by omega)
  have h8 := q1.1
  obtain ⟨L1, a1, a2, a3⟩ := open_ok (k := k) (s := Go.Rlm.strOf vs) (L := L) (by simp; omega) (by omega)
  rw [q1.unpack] at a2
  obtain ⟨L2, e⟩ := round2 (k := k) (l := l) (b := b) (x := L.length) hm (fun h => by have := hC.within _ h; omega) (fun h => by have := hP.within _ h; omega) hps (by omega) (by omega) ps.length 0 k L1 (by omega) (by omega) (hC.mono (a3.others hC.within (none_apart _)) a3.len) a2 (hP.mono (a3.others hP.within (none_apart _)))
  exact ⟨L2, by simp only [q2, a1, lbind_ret, asS_string, asP_pointer, obind_some]; exact e⟩

theorem uint_mod (s : Int) {n : Nat} (hn : 0 < n) (h : n ≤ 1000) : ∃ q : Nat, q < n ∧ IntKind.wrap .i64 (Int.tmod (IntKind.wrap .u64 s) (IntKind.wrap .u64 (n : Int))) = (q : Int) := by
  have h0 : ∃ y : Nat, IntKind.wrap .u64 s = (y : Int) := by
    have : 0 ≤ IntKind.wrap .u64 s := by
      simp only [IntKind.wrap, IntKind.bits, IntKind.signed, Bool.false_and, Bool.false_eq_true, if_false]
      exact Int.emod_nonneg _ (by decide)
    exact ⟨(IntKind.wrap .u64 s).toNat, by omega⟩
  obtain ⟨y, hy⟩ := h0
  refine ⟨y % n, Nat.mod_lt _ hn, ?_⟩
  have := Nat.mod_lt y hn
  rw [hy, wU64 (n := (n : Int)) (by omega) (by omega), tmod_nat]
  generalize y % n = z at *
  rw [wI64] <;> omega

theorem round1 {k b w : Nat} {ls l : Sl} {zs ss : List Int} {F Al A : List Nat} (hm : may zs = true) (hzl : l.n = zs.length) (hsl : ls.n = ss.length) (h300 : ss.length ≤ 300) (hk : 1000 ≤ k) :
    ∀ (m i j : Nat) (ps G P : List Nat) (l4 : Sl) (L : LHeap), i + m = ss.length → m < j → ps.length ≤ i → (symsBits zs ps).length ≤ 15 * i → (∀ p ∈ ps, p < zs.length ∧ 0 < zs.getD p 0) → CO L b zs F → BW L w (symsBits zs ps) G → OS L l4 (ps.map kV) 3 P →
      Rd L l (zs.map iV) Al → Rd L ls (ss.map iV) A → Apart G F → Apart G Al → Apart G A → Apart G P → Apart P F → Apart P Al → Apart P A →
      ∃ L', f16_l12 k j ls l (some ⟨b, 0, none⟩) w l4 (i : Int) L = some (.ret (.bool true) L') := by
  obtain ⟨hok, h512, _⟩ := may_ok hm
  intro m
  induction m with
  | zero =>
    intro i j ps G P l4 L hi hj hpl hb hps hC hW hP hl hs a1 a2 a3 a4 a5 a6 a7
    obtain ⟨j, rfl⟩ : ∃ j', j = j' + 1 := ⟨j - 1, by omega⟩
    obtain ⟨L', e⟩ := behind (k := k) hm hps (by omega) hk hC hW hP.ws.rd (by omega)
    refine ⟨L', ?_⟩
    rw [f16_l12_eq, decide_eq_false (by omega)]
    exact e
  | succ m ih =>
    intro i j ps G P l4 L hi hj hpl hb hps hC hW hP hl hs a1 a2 a3 a4 a5 a6 a7
    obtain ⟨j, rfl⟩ : ∃ j', j = j' + 1 := ⟨j - 1, by omega⟩
    have hiz : i < ss.length := by omega
    rw [f16_l12_eq, decide_eq_true (by omega)]
    simp only [lif_true]
    by_cases h0 : zs.length = 0
    · obtain ⟨L', e⟩ := behind (k := k) hm hps (by omega) hk hC hW hP.ws.rd (by omega)
      refine ⟨L', ?_⟩
      rw [decide_eq_false (by omega)]
      exact e
    rw [decide_eq_true (show (l.n : Int) > 0 by omega)]
    obtain ⟨c, c1, c2⟩ := hs.here (i := i) (v := iV ss[i]) (by simp [hiz])
    obtain ⟨q, hq, hqe⟩ := uint_mod ss[i] (show 0 < zs.length by omega) (by omega)
    have hnz : decide (IntKind.wrap .u64 (l.n : Int) = 0) = false := by rw [wU64 (n := (l.n : Int)) (by omega) (by omega)]; exact decide_eq_false (by omega)
    rw [← hzl] at hqe
    obtain ⟨L1, G1, d1, d2, d3⟩ := cput_ok (k := k) (s := (q : Int)) hC hm hW (by omega) (by omega)
    have hC1 := hC.mono (d3.others hC.within a1) d3.len
    have hl1 := hl.mono (d3.others hl.within a2)
    have hs1 := hs.mono (d3.others hs.within a3)
    have hP1 := hP.mono (d3.others hP.within a4)
    have b1 := d3.apart hC.within a1
    have b2 := d3.apart hl.within a2
    have b3 := d3.apart hs.within a3
    have b4 := d3.apart hP.within a4
    have hg : zs.getD q 0 = zs[q] := by rw [List.getD_eq_getElem?_getD, List.getElem?_eq_getElem hq]; rfl
    obtain ⟨e, e1, e2⟩ := hl1.here (i := q) (v := iV zs[q]) (by simp [hq])
    have hsp := symPut_le hm (q : Int)
    simp only [lif_true, c1, c2, iV, Option.bind_some, asI_int, obind_some, hnz, Bool.not_false, when_true, hqe, d1, lbind_ret, e1, e2]
    rw [wI64 (n := (i : Int) + 1) (by omega) (by omega)]
    by_cases hz : 0 < zs[q]
    · have hyes : symOk zs (q : Int) = true := by rw [symOk, Int.toNat_natCast, hg]; simp [hz, hq]
      have hbits : symsBits zs ps ++ symPut zs (q : Int) = symsBits zs (ps ++ [q]) := by rw [symPut, if_pos hyes, Int.toNat_natCast]; simp [symsBits]
      rw [hbits] at d2
      obtain ⟨l5, L2, P2, g1, g2, g3⟩ := (hP1.mono (L' := L1 ++ [LBlk.cells [kV q] 3 false 0]) fun y hy => get_push (hP1.within y hy)).app [kV q] 8 (by simp; omega) (by simp; omega)
      have st : Step P L1 P2 L2 := (Step.push P L1 _).trans g3
      have d22 := d2.mono (st.others d2.within b4.symm)
      obtain ⟨L3, r⟩ := ih (i + 1) j (ps ++ [q]) G1 P2 l5 L2 (by omega) (by omega) (by simp; omega) (by rw [← hbits]; simp; omega)
        (fun p hp => by rcases List.mem_append.1 hp with hp | hp; exact hps p hp; simp at hp; rw [hp, hg]; exact ⟨hq, hz⟩) (hC1.mono (st.others hC1.within a5) st.len) d22 (by rw [List.map_append]; exact g2)
        (hl1.mono (st.others hl1.within a6)) (hs1.mono (st.others hs1.within a7)) b1 b2 b3 (st.apart d2.within b4.symm).symm (st.apart hC1.within a5) (st.apart hl1.within a6) (st.apart hs1.within a7)
      refine ⟨L3, ?_⟩
      have g1 : app (L1 ++ [LBlk.cells [Value.int .i64 (q : Int)] 3 false 0]) 3 1 8 l4 1 [Value.int .i64 (q : Int)] = some (l5, L2) := g1
      rw [symRes, if_pos hyes, decide_eq_true hz]
      simp only [BEq.rfl, Bool.not_true, lif_false, lif_true, size3, bytes3, src_new, obind_some, g1]
      exact r
    · have hno : symOk zs (q : Int) = false := by rw [symOk, Int.toNat_natCast, hg]; simp; intro _; omega
      have hbits : symsBits zs ps ++ symPut zs (q : Int) = symsBits zs ps := by rw [symPut, hno]; simp
      rw [hbits] at d2
      obtain ⟨L3, r⟩ := ih (i + 1) j ps G1 P l4 L1 (by omega) (by omega) (by omega) (by omega) hps hC1 d2 hP1 hl1 hs1 b1 b2 b3 b4 a5 a6 a7
      refine ⟨L3, ?_⟩
      rw [symRes, hno, decide_eq_false hz]
      exact r

theorem run {k : Nat} (hk : 3000 ≤ k) {l ls : Sl} {fs ss : List Int} {A B : List Nat} {L : LHeap} (hl : Rd L l (fs.map iV) A) (hs : Rd L ls (ss.map iV) B) : ∃ L', lcall Try.prog X.T (k + 1) 16 [.slice l.a l.n l.c, .slice ls.a ls.n ls.c] L = some (.ret (.bool true) L') := by
  show ∃ L', f16 (k + 1) l ls L = _
  have hn := hl.len
  have hn2 := hs.len
  simp only [List.length_map] at hn hn2
  obtain ⟨L1, w1, w2⟩ := awake_ok (k := k) (L := L) (by omega)
  rw [f16_eq]
  by_cases h1 : fs.length > 300
  · rw [decide_eq_true (by omega)]
    exact ⟨L1, by simp only [lif_true, w1, lbind_ret, asB_bool, obind_some]⟩
  rw [decide_eq_false (by omega)]
  by_cases h2 : ss.length > 300
  · rw [decide_eq_true (by omega)]
    exact ⟨L1, by simp only [lif_false, lif_true, w1, lbind_ret, asB_bool, obind_some]⟩
  rw [decide_eq_false (by omega)]
  have hl1 := hl.mono (w2.others hl.within (none_apart _))
  have hs1 := hs.mono (w2.others hs.within (none_apart _))
  obtain ⟨s, L2, F2, a1, a2, a3⟩ := lengths_ok (k := k) hl1 (by omega) (by omega)
  have hs2 := hs1.mono (a3.others hs1.within (none_apart _))
  simp only [lif_false, w1, lbind_ret, asB_bool, obind_some, Bool.not_true, a1, tupL_tuple, uncons_cons, nilL_nil, asSl_slice, asI_int]
  cases hok : lenOk fs with
  | false =>
    rw [lenErr, hok]
    exact ⟨L2, rfl⟩
  | true =>
    obtain ⟨g1, g2⟩ := lenOk_mem hok
    have hm := may_lengthsOf g2 g1
    have hle : lenErr fs = 0 := by rw [lenErr, if_pos hok]
    have hlr : lenRes fs = lengthsOf fs := by rw [lenRes, if_pos hok]
    rw [hlr] at a2
    rw [hle]
    have hzn := a2.rd.len
    simp only [List.length_map] at hzn
    obtain ⟨b, Fc, L3, c1, c2, c3⟩ := (new_ok (k := k) a2.rd (by rw [lengthsOf_length]; omega) (by rw [lengthsOf_length]; omega)).2 hm
    have a23 := a2.rd.mono (c3.others a2.rd.within (none_apart _))
    have hs3 := hs2.mono (c3.others hs2.within (none_apart _))
    simp only [bne_self_eq_false, lif_false, c1, lbind_ret, tupL_tuple, uncons_cons, nilL_nil, asP_pointer, asI_int, obind_some]
    have hW := BW.new L3
    have s1 := Step.new [] L3 (LBlk.cells [Value.slice none 0 0, Value.int IntKind.i64 0] 26 false 0)
    generalize L3 ++ [LBlk.cells [Value.slice none 0 0, Value.int IntKind.i64 0] 26 false 0] = L4 at *
    obtain ⟨L5, e⟩ := round1 (k := k) (b := b) (w := L3.length) (ls := ls) (l := s) hm hzn hn2 (by omega) (by omega) ss.length 0 k [] [L3.length] [] ⟨none, 0, 0⟩ L4 (by omega) (by omega) (by simp) (by simp [symsBits]) (by simp) (c2.mono (s1.others c2.within (none_apart _)) s1.len) hW (OS.nil _ _)
      (a23.mono (s1.others a23.within (none_apart _))) (hs3.mono (s1.others hs3.within (none_apart _))) (s1.apart c2.within (none_apart _)) (s1.apart a23.within (none_apart _)) (s1.apart hs3.within (none_apart _)) (none_apart _).symm (none_apart _) (none_apart _) (none_apart _)
    exact ⟨L5, e⟩

theorem walk {w : World} {a b : Option Addr} {len cap len1 cap1 : Nat} {zs ys : List Int} (hl : zs.length = len) (hc : IsCells w a len cap 1 (zs.map (.int .i64 ·))) (hz : ∀ n ∈ zs, (Lit.int .i64 n).wf = true)
    (hl1 : ys.length = len1) (hc1 : IsCells w b len1 cap1 1 (ys.map (.int .i64 ·))) (hz1 : ∀ n ∈ ys, (Lit.int .i64 n).wf = true) :
    Calls Try.prog 16 #[.slice a len cap, .slice b len1 cap1] w fun e w' => e = .returned (.bool true) ∧ Below w.heap.size w w' := by
  obtain ⟨m, L, l, A, _, hr, hno, hv, hi, hn, _, _⟩ := (Rep.empty (P := Try.prog) (w := w)).arg (fun _ => own_nil) hc (ints_flat _ zs)
  obtain ⟨m', L', l', B, he, hr', hno', hv', hi', hn', hk, _⟩ := hr.arg hno hc1 (ints_flat _ ys)
  obtain ⟨L'', h⟩ := run (Nat.le_refl 3000) (hi.mono fun i hA => hk i (hi.within i hA)).rd hi'.rd
  exact law_walk mixed named h hr' (.cons (hv.mono he) (.cons hv' .nil)) hno'

set_option maxRecDepth 100000 in
theorem lifted (os : Os) (started : os.Started) (H : Type) (enc : TypeId × Value → H) :
    ReturnsInHanded {} Try.checked os 16 .any (Rows.huffBackSpec.pre6 enc Try.prog Try.f16 Rows.huffBackRow.domain false) (Rows.huffBackSpec.post enc Try.prog Try.f16 false true false false) := by
  refine returnsInHanded_of_change (C := Try.checked) own started (by kernel_rfl) Try.func16
    (ChangeSpec.witness6 (enc := enc) (C := Try.checked) false ⟨#[], #[.slice none 0 0, .slice none 0 0], []⟩ 8 (by kernel_rfl) (by kernel_rfl) (by kernel_rfl) (by kernel_rfl)) ?_
  intro W base args ds gs before hval0 hW hcnd _
  have hval : ∀ (j : Nat) t v, Try.f16.params[j]? = some t → args[j]? = some v → Value.okWide Try.prog W .any base t v := hval0
  have hW' := hW
  obtain ⟨p, q, hA0, hV, rfl, hfz, hnd⟩ := hW
  have hA : DataW.TrodAll enc Try.prog W 0 (fun _ => true) true Try.f16.params.toList args.toList ds p := hA0
  rw [Try.params16] at hA hval
  obtain ⟨v0, vs0, d0, ds0, p0, q0, hargs, rfl, rfl, h0, r0⟩ := trodAll_cons hA
  obtain ⟨v1, vs1, d1, ds1, p1, q1, rfl, rfl, rfl, h1, r1⟩ := trodAll_cons r0
  obtain ⟨rfl, rfl, rfl⟩ := trodAll_nil r1
  obtain rfl : args = #[v0, v1] := by cases args; simp_all
  obtain ⟨rfl, rfl⟩ := trodVars_none hV
  obtain ⟨a0, len0, cap0, rfl⟩ := okWide_slice Try.underlying38 (hval 0 38 v0 rfl rfl)
  have k0 := h0
  have lt0 : ∀ x ∈ p0, x.block < W.heap.size := by obtain ⟨m, hm⟩ := k0; exact DataW.trod_lt m _ _ _ hm
  obtain ⟨z0, l0, w0, u0⟩ := open_cells Try.underlying38 Try.underlying3 (by kernel_rfl) h0
  obtain ⟨a1, len1, cap1, rfl⟩ := okWide_slice Try.underlying38 (hval 1 38 v1 rfl rfl)
  have k1 := h1
  have lt1 : ∀ x ∈ p1, x.block < W.heap.size := by obtain ⟨m, hm⟩ := k1; exact DataW.trod_lt m _ _ _ hm
  obtain ⟨z1, l1, w1, u1⟩ := open_cells Try.underlying38 Try.underlying3 (by kernel_rfl) h1
  clear hA0 hval0
  refine (walk l0 w0 u0 l1 w1 u1).mono fun e W' ⟨he, bel⟩ => ?_
  subst he
  exact ⟨_, rfl, _, _, _, [], _, [], hW', trodAll_mk1 (shut_bool Try.underlying4 _), (trodAll_cons_mk (Below.trod laidOut (by kernel_rfl) (of_decide_eq_true (by kernel_rfl)) k0 bel lt0) (trodAll_cons_mk (Below.trod laidOut (by kernel_rfl) (of_decide_eq_true (by kernel_rfl)) k1 bel lt1) trodAll_mk0)), rfl, bel.frame _, fun h => by cases h⟩

theorem over : Rows.huffBackRow.holds Try.pinned (OpenSpec.ofChange Rows.huffBackSpec) :=
  OpenClaim.holds_of_wide 16 Try.f16 rfl rfl rfl rfl rfl rfl rfl ⟨rfl, rfl, rfl, rfl, rfl⟩ rfl rfl rfl rfl rfl (by kernel_rfl) Try.func16 (by kernel_rfl)
    (of_decide_eq_true (by kernel_rfl)) (by unfold Func.isWrapper; first | (rw [if_pos (by decide +kernel)]; kernel_rfl) | (rw [if_neg (by decide +kernel)]; exact ⟨rfl, rfl⟩))
    (fun os started H enc _ => lifted os started H enc)

end Go.Proofs.Ytlcchghlhfamjaa.HuffBack
namespace Go.Proofs.Ytlcchghlhfamjaa

/-- The statement. -/
theorem huffBack_holds : Rows.HuffBackSaid := HuffBack.over

end Go.Proofs.Ytlcchghlhfamjaa
#print axioms Go.Proofs.Ytlcchghlhfamjaa.huffBack_holds

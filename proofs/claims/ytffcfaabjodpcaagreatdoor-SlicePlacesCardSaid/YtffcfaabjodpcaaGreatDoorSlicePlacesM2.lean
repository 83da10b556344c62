/- The logical machine, its likeness to the model, and the contracts of the functions that the law calls. Printed by pack.py, a program of this work, out of its texts; what the law does not use is left out. -/
import Derived.Test.YtffcfaabjodpcaaGreatDoorSlicePlacesM1
import Derived.LoopNIn
import Derived.Scope
import Derived.TacticsIn
import Derived.RangeFuncRecord
import Derived.RangeFuncCalls
import Derived.OrdersIn
import Derived.RangeFuncLeaves
import Derived.Below
import Derived.Laws.Externs
import Derived.Lib.MakeNoZero
import Derived.Lib.Repeat
import Derived.Shelf.LaysM
import Derived.Shelf.Strconv.Itoa3
import Derived.Shelf.LaysC
import Derived.Shelf.Strconv.AtoiAll
import Derived.Shelf.Strings.Repeat
import Derived.Shelf.Strings.OnBuilder
import Derived.Shelf.Strings.Trim
import Derived.Test.YtffcfaabjodpcaaGreatDoorProg
import Derived.KernelRfl
import Derived.Lib.ItoaNum
import Derived.Lib.AtoiAll
import Derived.Lib.AtoiErrMem
import Derived.Lib.QuietBelow
import Derived.Test.YtffcfaabjodpcaaGreatDoorRows
import Derived.LaidMore
import Derived.Stop.LaidErr
import Derived.Lib.LaidTab
import Derived.LaidLaws
section
namespace Go.Rlm
section
variable {P : Program} {env : Env} {L : LHeap} {o : Oper} {r : LR} {K : Value → LHeap → R}
theorem VR.sliceShape {m : RMap} {sa : Option Addr} {n c : Nat} {x' : Value} (h : VR m (.slice sa n c) x') : ∃ a' c', x' = .slice a' n c' ∧ (c < OPEN → c' = c) := by
  cases sa with
  | none => exact ⟨_, _, h.of_nilSlice, fun _ => rfl⟩
  | some a =>
    rcases h.of_slice with ⟨_, i, _, e⟩ | ⟨hc, i, _, e⟩ | ⟨hc, hn, a', c', e⟩
    · exact ⟨_, _, e, fun _ => rfl⟩
    · exact ⟨_, _, e, fun h => by omega⟩
    · exact ⟨_, _, hn ▸ e, fun h => by rw [hc] at h; unfold OPEN LOOSE at h; omega⟩
theorem toBytes_ok : ∀ {cs : List Value} {acc s : ByteArray}, toBytes cs acc = some s → ∃ ns : List Int, cs = ns.map (Value.int .u8) ∧ s = ns.foldl (fun r n => r.push (UInt8.ofNat n.toNat)) acc
  | [], acc, s, h => by injection h with h; exact ⟨[], rfl, h.symm⟩
  | v :: cs, acc, s, h => by
    cases v with
    | int k n =>
      cases k with
      | u8 =>
        simp only [toBytes] at h
        obtain ⟨ns, h3, h4⟩ := toBytes_ok h
        exact ⟨n :: ns, by simp [h3], by simpa using h4⟩
      | _ => simp [toBytes] at h
    | _ => simp [toBytes] at h
theorem VRs.ints {m : RMap} : ∀ {ns : List Int} {cs' : List Value}, VRs m (ns.map (Value.int .u8)) cs' → cs' = ns.map (Value.int .u8)
  | [], _, h => by cases h; rfl
  | n :: ns, _, h => by
    cases h with
    | cons h hs => rw [VR.of_int h, VRs.ints hs]; rfl
theorem bytesOf_ok {m : RMap} {w : World} (hr : Rep P m L w) {s : Sl} {b : ByteArray} (h : bytesOf L s = some b) {x' : Value} (hv : VR m (.slice s.a s.n s.c) x') :
    (Conv.bytesToString x').run P w = .ok (.string b) w := by
  unfold bytesOf at h
  simp only [Option.bind_eq_bind, Option.bind_eq_some_iff] at h
  obtain ⟨cs, h1, h2⟩ := h
  obtain ⟨ns, rfl, rfl⟩ := toBytes_ok h2
  obtain ⟨cs', h3, h4, h5, h6⟩ := srcCells_ok hr h1 (Nat.le_refl _) hv
  have h7 := h4.ints
  subst h7
  cases ha : s.a with
  | none =>
    rw [ha] at hv
    rw [hv.of_nilSlice] at h3 ⊢
    simp [Builtin.firstCells] at h3
    subst h3
    rfl
  | some a =>
    rw [ha] at hv
    have fin : ∀ (a' : Addr) (n' c' : Nat), n' = s.n → x' = .slice (some a') n' c' → (Conv.bytesToString x').run P w = .ok (.string (ns.foldl (fun r n => r.push (UInt8.ofNat n.toNat)) .empty)) w := fun a' n' c' hn e => by
      rw [e] at h3 ⊢
      simp only [Builtin.firstCells, Nat.mul_one] at h3
      exact run_bytesToString w a' n' c' ns (by rw [hn]; exact h3)
    rcases hv.of_slice with ⟨_, i, _, e⟩ | ⟨_, i, _, e⟩ | ⟨_, hn, a', c', e⟩
    · exact fin _ _ _ rfl e
    · exact fin _ _ _ rfl e
    · exact fin _ _ _ hn.symm e
theorem lop_convert {s d : TypeId} {x : Operand} (ho : o.op = .convert s d x) (h : lop P env L o K = some r) : Res P env L o K r := by
  obtain ⟨dst, op, ty, pos, after, guard⟩ := o
  simp only at ho
  subst ho
  simp only [lop, ev_eq] at h
  rw [obind_iff] at h
  obtain ⟨v, h1, h⟩ := h
  have unf : ∀ L2 K2, lop P env L2 ⟨dst, .convert s d x, ty, pos, after, guard⟩ K2 = lconv P s d v L2 K2 := fun L2 K2 => by simp only [lop, ev_eq, h1, obind_some]
  unfold lconv at h
  split at h
  · rename_i ds k k' n hs hd
    refine .pure _ h (fun L2 K2 => by rw [unf]; simp only [lconv, hs, hd]) fun m w a hr he => ⟨_, ?_, .flat1 rfl⟩
    simp [execOp, VR.of_int (he.eval h1), convert, run_underlying hs, run_underlying hd, Conv.intToInt]
  · rename_i ds b hs hd
    refine .pure _ h (fun L2 K2 => by rw [unf]; simp only [lconv, hs, hd]) fun m w a hr he => ⟨_, ?_, .flat1 rfl⟩
    simp [execOp, VR.of_string (he.eval h1), convert, run_underlying hs, run_underlying hd]
  · rename_i e a n c hs hd
    split at h
    case h_2 => cases h
    rename_i hu
    rw [obind_iff] at h
    obtain ⟨b, h2, h3⟩ := h
    refine .read _ (by simp [kindOf, hs, hd]) h3 (fun K2 => by rw [unf]; simp only [lconv, hs, hd, hu, h2, obind_some]) fun m w a hr he => ⟨_, ?_, .flat1 rfl⟩
    have hb := bytesOf_ok hr h2 (he.eval h1)
    obtain ⟨a', c', hx, _⟩ := (he.eval h1).sliceShape
    rw [hx] at hb
    simp only [execOp, hx, Sem.run_bind, run_convert_bytes_string w s d e a' _ c' hs hu hd, hb, Result.andThen_ok, Sem.run_pure]
  · rename_i ds e b hs hd
    split at h
    case h_2 => cases h
    rename_i hu
    rw [cond_iff] at h
    obtain ⟨h2, h3⟩ := h
    have hce := Nat.eq_of_beq_eq_true h2
    refine .write _ _ (by
      simp only [kindOf, hs, hd]) h3 (fun K2 => by rw [unf]; simp only [lconv, hs, hd, hu, h2, hif_true, cond_true]) fun m w a hr he => ?_
    have hrun := Lib.run_convert_string_bytes (P := P) w s d e b hs hd hu
    have hge := grownCap_ge w b.size 0 e
    have hbc : (Lib.bytesCells w e b) = ⟨byteCells b ++ List.replicate (grownCap w b.size 0 e - b.size) (.int .u8 0)⟩ := by
      apply Array.ext'
      simp [Lib.bytesCells, byteCells]
    have hblen : (byteCells b).length = b.size := by simp [byteCells]
    have hheap : (Lib.bytesWorld w e b).heap = w.heap.push (.cells ⟨byteCells b ++ List.replicate (grownCap w b.size 0 e - b.size) (.int .u8 0)⟩ e ((Lib.bytesCells w e b).size, (Lib.bytesCells w e b).size + 1)) := by
      rw [← hbc]
      apply Array.ext_getElem?
      intro j
      rcases Nat.lt_trichotomy j w.heap.size with hj | hj | hj
      · rw [Lib.bytesWorld_at_old w e b j hj, Array.getElem?_push, if_neg (by omega)]
      · subst hj; rw [Lib.bytesWorld_at_new, Array.getElem?_push, if_pos rfl]
      · rw [Array.getElem?_eq_none (by rw [Lib.bytesWorld_size]; omega), Array.getElem?_eq_none (by simp; omega)]
    obtain ⟨g1, g2⟩ := hr.push (w' := Lib.bytesWorld w e b) (cs := byteCells b) (cs' := byteCells b) (e := e) 1 (grownCap w b.size 0 e) (fz := ((Lib.bytesCells w e b).size, (Lib.bytesCells w e b).size + 1))
      (extra := List.replicate (grownCap w b.size 0 e - b.size) (.int .u8 0)) hheap (by
        intro o ho
        rw [hbc]
        simp at ho ⊢
        omega) rfl rfl rfl (VRs.flat (byteCells_flat b)) (fun v hv => one_of_flat1 (byteCells_flat b v hv)) (fun _ => ⟨by simp [hblen]; omega, hce.symm⟩)
    refine ⟨_, _, .slice (some ⟨w.heap.size, 0, none⟩) b.size (grownCap w b.size 0 e), .inl (by simp only [execOp, VR.of_string (he.eval h1), Sem.run_bind, hrun, Result.andThen_ok, Sem.run_pure]), ?_, g1, g2⟩
    have hm : ins m L.length ⟨w.heap.size, 0, grownCap w b.size 0 e, 1⟩ L.length = some ⟨w.heap.size, 0, grownCap w b.size 0 e, 1⟩ := by simp [ins]
    have := VR.opn (a := ⟨L.length, 0, none⟩) (n := b.size) hm
    simpa [Info.at] using this
  · rename_i t a hs hd
    rw [cond_iff] at h
    obtain ⟨h2, h⟩ := h
    rw [obind_iff] at h
    obtain ⟨b, h3, h4⟩ := h
    refine .read _ (by simp [kindOf, hs, hd]) h4 (fun K2 => by rw [unf]; simp only [lconv, hs, hd, h2, hif_true, h3, obind_some]) fun m w a hr he => ?_
    have hv := he.eval h1
    obtain ⟨rfl, ⟨p, hp⟩, hrun⟩ := toU_ok hr h3 hv hs hd (Nat.le_of_ble_eq_true h2)
    rw [hp] at hrun hv
    refine ⟨_, ?_, hv⟩
    simp only [execOp, hp, Sem.run_bind, convert, run_underlying hs, run_underlying hd, hrun, Result.andThen_ok, Sem.run_pure]
  · rename_i u a hs hd
    rw [obind_iff] at h
    obtain ⟨b, h3, h4⟩ := h
    refine .read _ (by simp [kindOf, hs, hd]) h4 (fun K2 => by rw [unf]; simp only [lconv, hs, hd, h3, obind_some]) fun m w a hr he => ?_
    have hv := he.eval h1
    obtain ⟨rfl, ⟨p, hp⟩, hrun⟩ := ofU_ok hr h3 hv hs hd
    rw [hp] at hrun hv
    refine ⟨_, ?_, hv⟩
    simp only [execOp, hp, Sem.run_bind, convert, run_underlying hs, run_underlying hd, hrun, Result.andThen_ok, Sem.run_pure]
  · cases h
theorem minmaxL_ok {mx : Bool} : ∀ {vs : List Value} {v : Value} {K : Value → R}, minmaxL mx v vs K = some r → (∃ k x, v = .int k x) →
    ∃ u, K u = some r ∧ (∀ K2, minmaxL mx v vs K2 = K2 u) ∧ flat1 u = true ∧ ∀ (m : RMap) (vs' : List Value) (w : World), VRs m vs vs' → (vs'.foldlM (if mx then Builtin.max2 else Builtin.min2) v).run P w = .ok u w
  | [], v, K, h, ⟨k, x, hv⟩ => ⟨v, h, fun _ => rfl, by rw [hv]; rfl, fun m vs' w hvs => by cases hvs; rfl⟩
  | y :: vs, v, K, h, ⟨k, x, hv⟩ => by
    subst hv
    cases y <;> simp only [minmaxL] at h <;> first | (cases h; done) | skip
    rename_i k' y
    rw [cond_iff] at h
    obtain ⟨hk, h⟩ := h
    simp only [decide_eq_true_eq] at hk
    subst hk
    obtain ⟨u, h1, h2, h3, h4⟩ := minmaxL_ok h ⟨_, _, rfl⟩
    refine ⟨u, h1, fun K2 => by simp only [minmaxL, decide_true, hif_true, cond_true, h2], h3, fun m vs' w hvs => ?_⟩
    cases hvs with
    | cons hy hs =>
      rw [VR.of_int hy]
      have := h4 m _ w hs
      cases mx <;> simpa [List.foldlM_cons, Builtin.max2, Builtin.min2] using this
theorem lcopy_ok {m : RMap} {w : World} (hr : Rep P m L w) {d : Sl} {n esz : Nat} {news news' : List Value} {L' : LHeap} (h : lcopy L d n esz news = some L') (hv : VRs m news news') (ho : ∀ v ∈ news, one v = true) (hl : news.length = n * esz) (hn : n ≤ d.n)
    {x' : Value} (hx : VR m (.slice d.a d.n d.c) x') :
    ∃ a' c' w', x' = .slice a' d.n c' ∧ (match a' with | some a => (storeCells a news').run P w = .ok () w' | none => w' = w) ∧ Rep P m L' w' ∧ Tr m L w m L' w' := by
  unfold lcopy at h
  split at h
  · rename_i ha
    injection h with h; subst h
    rw [ha] at hx
    exact ⟨none, d.c, w, hx.of_nilSlice, rfl, hr, .refl m L w⟩
  · rename_i a ha
    rw [ha] at hx
    simp only [hif_eq, cond_eq_ite, Bool.or_eq_true] at h
    split at h
    · rename_i h0
      have h0 : n * esz = 0 := by
        rcases h0 with h0 | h0 <;> simp [Nat.eq_of_beq_eq_true h0]
      rw [h0] at hl
      have : news = [] := List.eq_nil_of_length_eq_zero hl
      subst this
      cases hv
      injection h with h; subst h
      rcases hx.of_slice with ⟨_, i, _, e⟩ | ⟨_, i, _, e⟩ | ⟨_, hn, a', c', e⟩
      · exact ⟨_, _, w, e, rfl, hr, .refl m L w⟩
      · exact ⟨_, _, w, e, rfl, hr, .refl m L w⟩
      · exact ⟨_, _, w, hn ▸ e, rfl, hr, .refl m L w⟩
    · rename_i h0
      have fin : ∀ (i : Info) (c' : Nat), m a.block = some i → x' = Value.slice (some (i.at a)) d.n c' → ∃ a' c' w', x' = Value.slice a' d.n c' ∧ (match a' with | some a => (storeCells a news').run P w = .ok () w' | none => w' = w) ∧ Rep P m L' w' ∧ Tr m L w m L' w' := fun i c' hi e =>
        let ⟨w', g1, g2, g3⟩ := hr.stores h hv ho hi
        ⟨_, c', w', e, g1, g2, g3⟩
      rcases hx.of_slice with ⟨_, i, hi, e⟩ | ⟨_, i, hi, e⟩ | ⟨_, hn0, _⟩
      · exact fin i _ hi e
      · exact fin i _ hi e
      · exfalso
        apply h0
        have : n = 0 := by omega
        subst this
        exact .inl rfl
theorem evvs2 {m : RMap} {a : Act} (he : ER m env a.tmps) {args : Array Operand} {x y : Value} (h : evvs env args.toList = some [x, y]) : ∃ x' y', args.map a.eval = #[x', y'] ∧ VR m x x' ∧ VR m y y' := by
  have := he.evals h
  rw [arr_map]
  generalize args.toList.map a.eval = l at this
  cases this with
  | cons h1 hs => cases hs with
    | cons h2 hs => cases hs; exact ⟨_, _, rfl, h1, h2⟩
theorem evvs1 {m : RMap} {a : Act} (he : ER m env a.tmps) {args : Array Operand} {x : Value} (h : evvs env args.toList = some [x]) : ∃ x', args.map a.eval = #[x'] ∧ VR m x x' := by
  have := he.evals h
  rw [arr_map]
  generalize args.toList.map a.eval = l at this
  cases this with
  | cons h1 hs => cases hs; exact ⟨_, rfl, h1⟩
theorem ty_of {ts : Array TypeId} {j : Nat} {d : TypeDesc} (h : (ts[j]?).bind P.underlying = some d) : ∃ t, ts[j]? = some t ∧ P.underlying t = some d := Option.bind_eq_some_iff.1 h
set_option maxHeartbeats 1000000 in
theorem lop_builtin {b : Builtin} {args : Array Operand} {ts : Array TypeId} (ho : o.op = .call { callee := .builtin b, args := args, argTypes := ts }) (h : lop P env L o K = some r) : Res P env L o K r := by
  obtain ⟨dst, op, ty, pos, after, guard⟩ := o
  simp only at ho
  subst ho
  simp only [lop, evs_eq] at h
  rw [obind_iff] at h
  obtain ⟨vs, h1, h⟩ := h
  have unf : ∀ L2 K2, lop P env L2 ⟨dst, .call { callee := .builtin b, args := args, argTypes := ts }, ty, pos, after, guard⟩ K2 = lbuiltin P b ts vs L2 K2 := fun L2 K2 => by simp only [lop, evs_eq, h1, obind_some]
  have ex : ∀ (f : Sem Value) (w w' : World) (v' : Value) (a : Act), (∀ cs, builtin b ts ty cs (args.map a.eval) = (do pure (.value (← f)))) → f.run P w = .ok v' w' →
      (execOp a.eval ⟨dst, .call { callee := .builtin b, args := args, argTypes := ts }, ty, pos, after, guard⟩).run P w = .ok (.value v') w' := fun f w w' v' a hb hf => by
    simp only [execOp, resolve, Sem.run_bind, Sem.run_pure, Result.andThen_ok, invoke, hb, hf]
  unfold lbuiltin at h
  split at h
  · -- len of a string
    rename_i s
    split at h
    case h_2 => cases h
    rename_i hu
    obtain ⟨t, ht, hu'⟩ := ty_of hu
    refine ⟨_, L, h, fun K2 => by rw [unf]; simp only [lbuiltin, hu], .inl ⟨rfl, fun m w a hr he => ?_⟩, fun _ L2 K2 => by rw [unf]; simp only [lbuiltin, hu]⟩
    obtain ⟨x', hx, hv⟩ := evvs1 he h1
    refine ⟨.int .i64 s.size, .inl (ex (Builtin.len_ ts ty (args.map a.eval)) w w _ a (fun cs => rfl) ?_), .flat1 rfl⟩
    rw [hx, hv.of_string]
    simp [Builtin.len_, ht, run_underlying hu', goInt]
  · -- len of a slice
    rename_i sa n c
    split at h
    case h_2 => cases h
    rename_i e hu
    obtain ⟨t, ht, hu'⟩ := ty_of hu
    refine ⟨_, L, h, fun K2 => by rw [unf]; simp only [lbuiltin, hu], .inl ⟨rfl, fun m w a hr he => ?_⟩, fun _ L2 K2 => by rw [unf]; simp only [lbuiltin, hu]⟩
    obtain ⟨x', hx, hv⟩ := evvs1 he h1
    obtain ⟨a', c', hs, _⟩ := hv.sliceShape
    refine ⟨.int .i64 n, .inl (ex (Builtin.len_ ts ty (args.map a.eval)) w w _ a (fun cs => rfl) ?_), .flat1 rfl⟩
    rw [hx, hs]
    simp [Builtin.len_, ht, run_underlying hu', goInt]
  · -- cap
    rename_i sa n c
    split at h
    case h_2 => cases h
    rename_i e hu
    obtain ⟨t, ht, hu'⟩ := ty_of hu
    rw [when_iff] at h
    obtain ⟨h2, h⟩ := h
    refine .read _ (by simp [kindOf]) h (fun K2 => by rw [unf]; simp only [lbuiltin, hu, h2, when_true]) fun m w a hr he => ?_
    obtain ⟨x', hx, hv⟩ := evvs1 he h1
    obtain ⟨a', c', hs, hc⟩ := hv.sliceShape
    have hc := hc (by simpa using h2)
    subst hc
    refine ⟨.int .i64 c', ex (Builtin.cap_ ts ty (args.map a.eval)) w w _ a (fun cs => rfl) ?_, .flat1 rfl⟩
    rw [hx, hs]
    simp [Builtin.cap_, ht, run_underlying hu', goInt]
  · -- append
    rename_i sa n c x
    split at h
    · rename_i e k0 hu0 hu1
      obtain ⟨t0, ht0, hu0'⟩ := ty_of hu0
      obtain ⟨t1, ht1, hu1'⟩ := ty_of hu1
      split at h
      case h_2 => cases h
      rename_i k i hi
      rw [obind_iff] at h
      obtain ⟨z, hz, h⟩ := h
      rw [when_iff, when_iff, when_iff] at h
      obtain ⟨h2, h3, h4, h⟩ := h
      rw [obind_iff] at h
      obtain ⟨q, h6, h7⟩ := h
      simp only [Bool.and_eq_true, decide_eq_true_eq, Nat.ble_eq] at h4
      obtain ⟨h4, h5, h63⟩ := h4
      obtain ⟨n0, rfl⟩ : ∃ n0 : Nat, k = n0 := ⟨k.toNat, by omega⟩
      rw [Int.toNat_natCast] at h5 h6
      refine .write _ _ rfl h7 (fun K2 => by rw [unf]; simp only [lbuiltin, hu0, hu1, hi, hz, h2, h3, Int.toNat_natCast, decide_eq_true (show (0 : Int) ≤ (n0 : Int) by omega), Nat.ble_eq_true_of_le h5, decide_eq_true h63, Bool.and_self, h6, when_true, obind_some]) fun m w a hr he => ?_
      obtain ⟨x', y', hx, hv1, hv2⟩ := evvs2 he h1
      have hy := VR.of_int hv2
      subst hy
      have hn63 : n0 < 9223372036854775808 := by omega
      obtain ⟨m', w', v', g1, g2, g3, g4⟩ := app_ok0 (ty := ty) hr ht0 ht1 hu0' hu1' hi hz (Nat.eq_of_beq_eq_true h2) (by simpa using h3) (s := ⟨sa, n, c⟩) h5 hn63 h6 hv1
      exact ⟨m', w', v', .inl (ex (Builtin.append_ ts ty (args.map a.eval)) w w' v' a (fun cs => rfl) (by rw [hx]; exact g1)), g2, g3, g4⟩
    · rename_i e d1 hni hu0 hu1
      obtain ⟨t0, ht0, hu0'⟩ := ty_of hu0
      obtain ⟨t1, ht1, hu1'⟩ := ty_of hu1
      split at h
      case h_2 => cases h
      rename_i i hi
      rw [obind_iff] at h
      obtain ⟨z, hz, h⟩ := h
      rw [when_iff, when_iff] at h
      obtain ⟨h2, h3, h⟩ := h
      simp only [obind_iff] at h
      obtain ⟨k, h4, news, h5, q, h6, h7⟩ := h
      have hd1 : ∀ k, d1 ≠ .int k := by intro k e; subst e; exact hni _ rfl
      refine .write _ _ rfl h7 (fun K2 => by rw [unf]; simp only [lbuiltin, hu0, hu1, hi, hz, h2, h3, h4, h5, h6, when_true, obind_some]) fun m w a hr he => ?_
      obtain ⟨x', y', hx, hv1, hv2⟩ := evvs2 he h1
      obtain ⟨m', w', v', g1, g2, g3, g4⟩ := app_ok (ty := ty) hr ht0 ht1 hu0' hu1' hd1 hi hz (Nat.eq_of_beq_eq_true h2) (by simpa using h3) (s := ⟨sa, n, c⟩) h6 hv1 (srcLen_ok h4 hv2 w)
        (fun w2 hw2 => srcOf_ok hw2 h4 h5 (Nat.le_refl _) hv2)
      exact ⟨m', w', v', .inl (ex (Builtin.append_ ts ty (args.map a.eval)) w w' v' a (fun cs => rfl) (by rw [hx]; exact g1)), g2, g3, g4⟩
    · cases h
  · -- copy
    rename_i sa n c x
    split at h
    case h_2 => cases h
    rename_i e hu0
    obtain ⟨t0, ht0, hu0'⟩ := ty_of hu0
    split at h
    case h_2 => cases h
    rename_i i hi
    simp only [obind_iff] at h
    obtain ⟨k, h4, news, h5, L', h6, h7⟩ := h
    refine .write _ _ rfl h7 (fun K2 => by rw [unf]; simp only [lbuiltin, hu0, hi, h4, h5, h6, obind_some]) fun m w a hr he => ?_
    obtain ⟨x', y', hx, hv1, hv2⟩ := evvs2 he h1
    obtain ⟨news', g1, g2, g3, g4⟩ := srcOf_ok hr h4 h5 (Nat.min_le_left _ _) hv2
    obtain ⟨a', c', w', g5, g6, g7, g8⟩ := lcopy_ok hr (d := ⟨sa, n, c⟩) h6 g2 g3 g4 (Nat.min_le_right _ _) hv1
    refine ⟨m, w', .int .i64 (min k n : Nat), .inl (ex (Builtin.copy_ ts ty (args.map a.eval)) w w' _ a (fun cs => rfl) ?_), .flat1 rfl, g7, g8⟩
    rw [hx, g5]
    have hlen := srcLen_ok (P := P) h4 hv2 w
    have g1' : (Builtin.firstCells i.size (Nat.min k n) y').run P w = .ok ⟨news'⟩ w := g1
    cases a' with
    | none =>
      simp only at g6
      subst g6
      simp only [Builtin.copy_, ht0, Sem.run_bind, run_underlying hu0', Result.andThen_ok, hlen, sizeOf, typeInfo, run_program, hi, Sem.run_pure]
      simp [ht0, run_underlying hu0', hlen, sizeOf, typeInfo, hi, g1', goInt]
    | some q =>
      simp only at g6
      simp [Builtin.copy_, ht0, run_underlying hu0', hlen, sizeOf, typeInfo, hi, g1', g6, goInt]
  · -- clear
    rename_i sa n c
    split at h
    case h_2 => cases h
    rename_i e hu0
    obtain ⟨t0, ht0, hu0'⟩ := ty_of hu0
    rw [obind_iff] at h
    obtain ⟨z, hz, h⟩ := h
    rw [when_iff] at h
    obtain ⟨h2, h⟩ := h
    rw [obind_iff] at h
    obtain ⟨L', h6, h7⟩ := h
    refine .write _ _ rfl h7 (fun K2 => by rw [unf]; simp only [lbuiltin, hu0, hz, h2, h6, when_true, obind_some]) fun m w a hr he => ?_
    obtain ⟨x', hx, hv⟩ := evvs1 he h1
    obtain ⟨zv, g1, g2, g3, g4⟩ := zeroOf_ok hz
    have hzp : 0 < z.length := by simpa using h2
    have hmem : ∀ v ∈ (List.replicate n z).flatten, v ∈ z := fun v hv => by
      obtain ⟨l, hl, hv⟩ := List.mem_flatten.1 hv
      rwa [List.eq_of_mem_replicate hl] at hv
    obtain ⟨a', c', w', g5, g6, g7, g8⟩ := lcopy_ok hr (d := ⟨sa, n, c⟩) (n := n) h6 (VRs.flat fun v hv => g3 v (hmem v hv)) (fun v hv => g4 v (hmem v hv)) (by simp [List.length_flatten]) (Nat.le_refl _) hv
    refine ⟨m, w', .tuple #[], .inl (ex (Builtin.clear_ ts ty (args.map a.eval)) w w' _ a (fun cs => rfl) ?_), .undef, g7, g8⟩
    rw [hx, g5]
    have hz' : ∀ w, (zeroValue e).run P w = .ok zv w := fun w => congrFun g1 w
    have hzc : (Builtin.zeroCells zv.cells n).toList = (List.replicate n z).flatten := by
      have hzs : zv.cells.size = z.length := by rw [← g2]; simp
      have := zero_mod g2 hzp n
      simp only [Builtin.zeroCells, hzs]
      rw [hzs] at this
      rw [this]
    cases a' with
    | none =>
      simp only at g6
      subst g6
      simp [Builtin.clear_, ht0, run_underlying hu0']
    | some q =>
      simp only at g6
      cases n with
      | zero =>
        simp at g6
        have : w' = w := by
          simp [storeCells] at g6
          exact g6.symm
        subst this
        simp [Builtin.clear_, ht0, run_underlying hu0']
      | succ n =>
        simp [Builtin.clear_, ht0, run_underlying hu0', hz', hzc, g6]
  · -- min
    rename_i k x vs
    obtain ⟨u, h2, h3, h4, h5⟩ := minmaxL_ok h ⟨_, _, rfl⟩
    refine .read _ (by simp [kindOf]) h2 (fun K2 => by rw [unf]; exact h3 _) fun m w a hr he => ?_
    have hvs := he.evals h1
    refine ⟨u, ex (Builtin.min_ ts ty (args.map a.eval)) w w _ a (fun cs => rfl) ?_, .flat1 h4⟩
    rw [arr_map]
    generalize args.toList.map a.eval = l at hvs
    cases hvs with
    | cons hx hs =>
      rw [VR.of_int hx]
      have := h5 m _ w hs
      simpa [Builtin.min_] using this
  · -- max
    rename_i k x vs
    obtain ⟨u, h2, h3, h4, h5⟩ := minmaxL_ok h ⟨_, _, rfl⟩
    refine .read _ (by simp [kindOf]) h2 (fun K2 => by rw [unf]; exact h3 _) fun m w a hr he => ?_
    have hvs := he.evals h1
    refine ⟨u, ex (Builtin.max_ ts ty (args.map a.eval)) w w _ a (fun cs => rfl) ?_, .flat1 h4⟩
    rw [arr_map]
    generalize args.toList.map a.eval = l at hvs
    cases hvs with
    | cons hx hs =>
      rw [VR.of_int hx]
      have := h5 m _ w hs
      simpa [Builtin.max_] using this
  · -- unsafe.SliceData
    rename_i sa n c
    split at h
    case h_2 => cases h
    rename_i e hu
    rw [obind_iff] at h
    obtain ⟨b, h2, h⟩ := h
    refine .read _ (by simp [kindOf]) h (fun K2 => by rw [unf]; simp only [lbuiltin, hu, h2, obind_some]) fun m w a hr he => ?_
    obtain ⟨x', hx, hv⟩ := evvs1 he h1
    obtain ⟨p, g1, g2⟩ := dataL_ok hr h2 hv ts ty
    exact ⟨_, ex (Builtin.unsafeSliceData_ ts ty (args.map a.eval)) w w _ a (fun cs => rfl) (by rw [hx]; exact g2), g1⟩
  · -- unsafe.String
    rename_i p n
    split at h
    case h_2 => cases h
    rename_i u hu
    obtain ⟨pt, hpt, hu'⟩ := ty_of hu
    rw [cond_iff] at h
    obtain ⟨hc, h⟩ := h
    rw [obind_iff] at h
    obtain ⟨r2, h2, h⟩ := h
    refine .write _ _ rfl h (fun K2 => by rw [unf]; simp only [lbuiltin, hu, hc, hif_true, h2, obind_some]) fun m w a hr he => ?_
    obtain ⟨x', y', hx, hv1, hv2⟩ := evvs2 he h1
    rw [hv2.of_int] at hx
    obtain ⟨w', g1, g2, g3⟩ := ustr_ok (it := ts.getD 1 0) (ty := ty) hr h2 hv1 hu' (Nat.eq_of_beq_eq_true hc)
    refine ⟨m, w', _, .inl (ex (Builtin.unsafeString_ ts ty (args.map a.eval)) w w' _ a (fun cs => rfl) ?_), .flat1 rfl, g2, g3⟩
    rw [hx]
    have : Builtin.unsafeString_ ts ty #[x', .int .i64 n] = Builtin.unsafeString_ #[pt, ts.getD 1 0] ty #[x', .int .i64 n] := by
      obtain ⟨l⟩ := ts
      cases l with
      | nil => simp at hpt
      | cons q l =>
        have e : q = pt := by simpa using hpt
        subst e
        rfl
    rw [this]
    exact g1
  · cases h
/-- **Every operation.** -/
theorem lop_ok (h : lop P env L o K = some r) : Res P env L o K r := by
  have h0 := h
  cases ho : o.op with
  | move x => exact lop_move (.inl ho) h
  | assign x => exact lop_move (.inr ho) h
  | pick c x y => exact lop_pick ho h
  | alloc t => exact lop_alloc ho h
  | box t x => exact lop_box ho h
  | build t ps => exact lop_build ho h
  | buildSlice t n ps => exact lop_buildSlice ho h
  | load t x => exact lop_load ho h
  | store t x y => exact lop_store ho h
  | nilCheck x => exact lop_nilCheck ho h
  | binOp b t x y yt => exact lop_binOp ho h
  | unOp u t x => exact lop_unOp ho h
  | convert s d x => exact lop_convert ho h
  | makeInterface t x => exact lop_makeInterface ho h
  | typeAssert x s t ok => exact lop_typeAssert ho h
  | makeFunc f xs ys =>
    cases f with
    | func f => exact lop_makeFunc ho h
    | _ => simp [lop, ho] at h0
  | makeSlice t x y => exact lop_makeSlice ho h
  | slice t x lo hi mx => exact lop_slice ho h
  | fieldAddr s x j => exact lop_fieldAddr ho h
  | field t x j => exact lop_field ho h
  | indexAddr t x y => exact lop_indexAddr ho h
  | index t x y => exact lop_index ho h
  | extract x j => exact lop_extract ho h
  | makeMap t x =>
    cases x with
    | none => exact lop_makeMap ho h
    | some x => simp [lop, ho] at h0
  | lookup t x y ok => exact lop_lookup ho h
  | mapUpdate t x y z => exact lop_mapUpdate ho h
  | mapEntry t x y => exact lop_mapEntry ho h
  | entryStore t x y z => exact lop_entryStore ho h
  | call c =>
    obtain ⟨callee, args, ts⟩ := c
    cases callee with
    | builtin b => exact lop_builtin ho h
    | _ => simp [lop, ho] at h0
  | _ => simp [lop, ho] at h0
end
end Go.Rlm
end

section
namespace Go.Rlm
/-- All functions, in a round of a range over a function or in none. -/
def fence (ro : Option Nat) : Fence := { fn := fun _ => True, depth := none, alive := false, round := ro }
theorem callsW {P : Program} {f : FuncId} {args : Array Value} {w : World} {R : Ending → World → Prop} {ro : Option Nat} {n : Nat} (h : Calls P f args w R) : CallsIn (fence ro) n P f args w R := by
  cases ro with
  | none => exact callsIn_wide.2 h
  | some l => exact CallsIn.inRound l (callsIn_wide.2 h)
theorem lop_no_defer {P : Program} {env : Env} {L : LHeap} {o : Oper} {K : Value → LHeap → R} {r : LR} (h : lop P env L o K = some r) : ∀ c, o.op ≠ .defer c := fun c e => by
  unfold lop at h
  rw [e] at h
  cases h
/-- How a run ends. -/
def Ends (P : Program) (m : RMap) (L : LHeap) (w : World) (r : LR) (e : Ending) (w' : World) : Prop :=
  match r with
  | .ret v L' => ∃ m' v', e = .returned v' ∧ VR m' v v' ∧ Rep P m' L' w' ∧ Tr m L w m' L' w'
  | .pan v L' => ∃ m' v', e = .panicked [{ v := v', recovered := false }] ∧ VR m' v v' ∧ Rep P m' L' w' ∧ Tr m L w m' L' w'
  | _ => False
/-- A function without a body: the model answers at once. (It is handed no yield, and gives no truth.) -/
def ExtOk (P : Program) (f : Nat) (args : List Value) (L : LHeap) (r : LR) : Prop :=
  (∀ x ∈ args, ∀ j az bs, x ≠ .func (.yield j) az bs) ∧ ∃ v L', r = .ret v L' ∧ (∀ b, v ≠ .bool b) ∧
    ∀ m w args', Rep P m L w → VRs m args args' → ∃ m' w' v', (callFunc f ⟨args'⟩).run P w = .ok (.value v') w' ∧ VR m' v v' ∧ Rep P m' L' w' ∧ Tr m L w m' L' w'
/-- What holds of the world az long az nobody writes to some of its blocks: what the package variables hold. -/
structure Keep where
  S : Nat → Prop
  J : World → Prop
  frame : ∀ w w', J w → (∀ b, S b → w'.heap[b]? = w.heap[b]?) → J w'
  there : ∀ w, J w → ∀ b, S b → b < w.heap.size
/-- Nothing is asked. -/
def Keep.none : Keep := ⟨fun _ => False, fun _ => True, fun _ _ _ _ => trivial, fun _ _ _ h => h.elim⟩
/-- It holds, and the machine has none of these blocks for its own. -/
def Keep.ok (G : Keep) (m : RMap) (L : LHeap) (w : World) : Prop := G.J w ∧ ∀ r i, mine L r → m r = some i → ¬ G.S i.blk
theorem Keep.ok.tr {G : Keep} {m : RMap} {L : LHeap} {w : World} {m' : RMap} {L' : LHeap} {w' : World} (h : G.ok m L w) (t : Tr m L w m' L' w') : G.ok m' L' w' := by
  refine ⟨G.frame w w' h.1 fun b hb => t.frame b (G.there w h.1 b hb) fun r i h1 h2 e => h.2 r i h1 h2 (e ▸ hb), fun r i h1 h2 hs => ?_⟩
  rcases t.foot r i h1 h2 with ⟨r0, i0, k1, k2, k3⟩ | k
  · exact h.2 r0 i0 k1 k2 (k3 ▸ hs)
  · have := G.there w h.1 _ hs
    omega
/-- A caller that the model follows. -/
structure CallOk (G : Keep) (P : Program) (call : Caller) : Prop where
  calls : ∀ f args L r0 r, f < YB → call f args L = some r0 → r0.real = some r →
    ((∀ m w args', Rep P m L w → G.ok m L w → VRs m args args' → Calls P f ⟨args'⟩ w (Ends P m L w r)) ∧ ∀ args' w, (callFunc f args').run P w = .ok (.enter f args') w) ∨ ExtOk P f args L r
  rounds : ∀ j args L r0 r, call (j + YB) args L = some r0 → r0.real = some r → ∀ m w args' i, Rep P m L w → G.ok m L w → VRs m args args' → m j = some i →
    ∃ fn tmps assign body, (Instr.yield i.blk ⟨args'⟩).run P w = .ok (.round i.blk fn tmps assign body) w ∧ ∀ ro n, RoundIn (fence ro) n P i.blk fn tmps assign body w (Ends P m L w r)
section
variable {P : Program} {env : Env} {L : LHeap} {r : LR}
theorem ER.put {m : RMap} {tmps : Array Value} (h : ER m env tmps) {dst : Option Nat} {v v' : Value} (hv : VR m v v') (hd : ∀ d, dst = some d → d < tmps.size) (a : Act) (ha : a.tmps = tmps) :
    ER m (Rlm.put env dst v) (a.put dst v').tmps := by
  cases dst with
  | none => simpa [Rlm.put, Act.put, ha] using h
  | some d =>
    intro t u hu
    simp only [Rlm.put, look, hif_eq, cond_eq_ite] at hu
    split at hu
    · rename_i hb
      have := Nat.eq_of_beq_eq_true hb
      subst this
      injection hu with hu
      subst hu
      refine ⟨v', ?_, hv⟩
      have := hd d rfl
      simp [Act.put, ha, this]
    · rename_i hb
      have hne : d ≠ t := fun e => hb (by rw [e]; exact Nat.beq_refl t)
      obtain ⟨x, h1, h2⟩ := h t u hu
      refine ⟨x, ?_, h2⟩
      simp [Act.put, ha, Array.getElem?_setIfInBounds_ne hne, h1]
theorem put_size (a : Act) (dst : Option Nat) (v : Value) : (a.put dst v).tmps.size = a.tmps.size := by cases dst <;> simp [Act.put]
theorem put_defers (a : Act) (dst : Option Nat) (v : Value) : (a.put dst v).defers = a.defers := by cases dst <;> rfl
theorem wants_ok {m : RMap} {ops : Array Oper} {a : Act} (he : ER m env a.tmps) {o : Oper} {b : Bool} (h : wants ops.toList env o = some b) : Region.wanted o (yielded ops a.tmps) = b := by
  unfold wants at h
  unfold Region.wanted
  split at h
  · rename_i hg
    injection h with h
    subst h
    rw [hg]
  · rename_i j w hg
    rw [hg]
    simp only
    split at h
    · cases h
    · rename_i d hd
      have hd' : (ops[j]?).bind (·.dst) = some d := by simpa [dstOf] using hd
      split at h
      · rename_i c hl
        injection h with h
        obtain ⟨v', h1, h2⟩ := he d _ hl
        rw [VR.of_bool h2] at h1
        simp only [yielded, hd', Option.bind_some, h1]
        rw [← h]
        cases c <;> cases w <;> rfl
      · rename_i vs hl
        simp only [hif_eq, cond_eq_ite] at h
        split at h
        case isFalse => cases h
        injection h with h
        obtain ⟨v', h1, h2⟩ := he d _ hl
        obtain ⟨vs', e, _⟩ := h2.of_tuple
        rw [e] at h1
        simp only [yielded, hd', Option.bind_some, h1]
        rw [← h]
        rfl
      · cases h
theorem split_ok {b : Bool} {v : Value} {K : Value → R} (h : split b v K = some r) : K v = some r := by
  unfold split at h
  cases b with
  | false => exact h
  | true =>
    simp only [hif_true, cond_true] at h
    split at h
    · rename_i c
      rw [lif_iff] at h
      rcases h with ⟨rfl, h⟩ | ⟨rfl, h⟩ <;> exact h
    · exact h
/-- What is asked of the end of a piece of code: it goes on where the machine goes on, or it is the machine's panic. -/
structure Goal (P : Program) (m : RMap) (L : LHeap) (w : World) (defers : List Deferred) (N : Nat) (r : LR) (K : Env → LHeap → R) (next : Act → World → Prop) (Q : Exit → Act → World → Prop) : Prop where
  go : ∀ env' L' m' w' a', K env' L' = some r → Rep P m' L' w' → ER m' env' a'.tmps → Tr m L w m' L' w' → a'.defers = defers → a'.tmps.size = N → next a' w'
  pan : ∀ v L' m' w' v' a', r = .pan v L' → VR m' v v' → Rep P m' L' w' → Tr m L w m' L' w' → a'.defers = defers → Q (.panic [{ v := v', recovered := false }]) a' w'
/-- One operation, calls among them. -/
theorem lstep_ok {ro : Option Nat} {n : Nat} {call : Caller} {G : Keep} (hc : CallOk G P call) {o : Oper} {K : Value → LHeap → R} (h : lstep P call env L o K = some r) {m : RMap} {w : World} {a : Act} (hr : Rep P m L w) (hg : G.ok m L w) (he : ER m env a.tmps)
    {next : Act → World → Prop} {Q : Exit → Act → World → Prop}
    (go : ∀ v L' m' w' v', K v L' = some r → VR m' v v' → Rep P m' L' w' → Tr m L w m' L' w' → next (a.put o.dst v') w')
    (pan : ∀ v L' m' w' v', r = .pan v L' → VR m' v v' → Rep P m' L' w' → Tr m L w m' L' w' → Q (.panic [{ v := v', recovered := false }]) a w') : o.wpIn (fence ro) n P a w next Q := by
  refine ⟨fun _ _ => trivial, ?_⟩
  have plain : lop P env L o K = some r → o.uponIn (fence ro) n P a next Q ((o.semAt (fence ro).round a.eval).run P w) := fun h => by
    rw [Oper.semAt_eq _ _ _ (lop_no_defer h)]
    obtain ⟨v, L', h1, _, h3, _⟩ := lop_ok h
    have hd : Does P env L o v L' := by
      rcases h3 with ⟨rfl, h3⟩ | ⟨_, h3⟩
      · exact h3.does
      · exact h3
    obtain ⟨m', w', v', h4, h5, h6, h7⟩ := hd m w a hr he
    rcases h4 with h4 | ⟨h4, rfl⟩
    · rw [h4]; exact go v L' m' w' v' h1 h5 h6 h7
    · rw [h4]; exact go v L' m' w' _ h1 h5 h6 h7
  unfold lstep at h
  split at h
  · rename_i f args ts ho
    simp only [ev_eq, evs_eq, obind_iff] at h
    obtain ⟨fv, h1, vs, h2, h⟩ := h
    have hf := he.eval h1
    have hvs := he.evals h2
    rw [Oper.semAt_eq _ _ _ (fun c e => by rw [ho] at e; cases e)]
    unfold lapp at h
    split at h
    case h_3 => cases h
    case h_2 =>
      rename_i j az bs
      obtain ⟨i, hi, hfv⟩ := hf.of_yield
      cases hcall : call (j + YB) vs L with
      | none => rw [hcall] at h; cases h
      | some r0 =>
        rw [hcall] at h
        obtain ⟨r1, hreal, h, hng⟩ := lbind_real h
        obtain ⟨fn, tmps, assign, body, g1, g2⟩ := hc.rounds j vs L r0 r1 hcall hreal m w _ i hr hg hvs hi
        have hrun : (execOp a.eval o).run P w = .ok (.round i.blk fn tmps assign body) w := by
          have e : (args.map a.eval) = ⟨args.toList.map a.eval⟩ := by apply Array.ext'; simp
          simp only [execOp, ho, resolve, hfv, Deferred.ofValue, Sem.run_bind, Sem.run_pure, Result.andThen_ok, invoke, e]
          simpa using g1
        rw [hrun]
        refine ⟨(fun h => by cases h), (g2 ro _).mono fun e w' hE => ?_⟩
        cases r1 with
        | ret v L' =>
          obtain ⟨m', v', rfl, h4, h5, h6⟩ := hE
          simp only [lbind_ret] at h
          exact go v L' m' w' v' (typed_same (K := fun v => K v L') h).1 h4 h5 h6
        | pan v L' =>
          obtain ⟨m', v', rfl, h4, h5, h6⟩ := hE
          simp only [lbind_pan] at h
          injection h with h
          exact pan v L' m' w' v' h.symm h4 h5 h6
        | gate b v L' => cases hng
        | alt g b v L' u L2 => cases hng
    rename_i g az bs
    cases hgb : Nat.blt g YB with
    | false => rw [hgb] at h; cases h
    | true =>
    rw [hgb, hif_true] at h
    have hgy : g < YB := by simpa using hgb
    obtain ⟨as', bs', hfv, has, hbs⟩ := hf.of_func
    have hargs : VRs m (az.toList ++ vs ++ bs.toList) (as'.toList ++ args.toList.map a.eval ++ bs'.toList) := (has.append hvs).append hbs
    cases hcall : call g (az.toList ++ vs ++ bs.toList) L with
    | none => rw [hcall] at h; cases h
    | some r0 =>
      rw [hcall] at h
      obtain ⟨r1, hreal, h, hng⟩ := lbind_real h
      rcases hc.calls g _ L r0 r1 hgy hcall hreal with ⟨hcalls, hent⟩ | ⟨_, v0, L0, rfl, _, hext⟩
      · have hrun : (execOp a.eval o).run P w = .ok (.enter g ⟨as'.toList ++ args.toList.map a.eval ++ bs'.toList⟩) w := by
          have e : (as' ++ args.map a.eval ++ bs') = ⟨as'.toList ++ args.toList.map a.eval ++ bs'.toList⟩ := by apply Array.ext'; simp
          simp only [execOp, ho, resolve, hfv, Deferred.ofValue, Sem.run_bind, Sem.run_pure, Result.andThen_ok, invoke, e]
          exact hent _ w
        rw [hrun]
        refine ⟨(fun h => by cases h), (callsW (hcalls m w _ hr hg hargs)).mono fun e w' hE => ?_⟩
        cases r1 with
        | ret v L' =>
          obtain ⟨m', v', rfl, h4, h5, h6⟩ := hE
          simp only [lbind_ret] at h
          exact go v L' m' w' v' (typed_same (K := fun v => K v L') h).1 h4 h5 h6
        | pan v L' =>
          obtain ⟨m', v', rfl, h4, h5, h6⟩ := hE
          simp only [lbind_pan] at h
          injection h with h
          exact pan v L' m' w' v' h.symm h4 h5 h6
        | gate b v L' => cases hng
        | alt g b v L' u L2 => cases hng
      · obtain ⟨m', w', v', e1, h4, h5, h6⟩ := hext m w _ hr hargs
        have hrun : (execOp a.eval o).run P w = .ok (.value v') w' := by
          have e : (as' ++ args.map a.eval ++ bs') = ⟨as'.toList ++ args.toList.map a.eval ++ bs'.toList⟩ := by apply Array.ext'; simp
          simp only [execOp, ho, resolve, hfv, Deferred.ofValue, Sem.run_bind, Sem.run_pure, Result.andThen_ok, invoke, e]
          exact e1
        rw [hrun]
        simp only [lbind_ret] at h
        exact go v0 L0 m' w' v' (typed_same (K := fun v => K v L0) h).1 h4 h5 h6
  · rename_i x ho
    simp only [ev_eq, obind_iff] at h
    obtain ⟨v, h1, h⟩ := h
    split at h
    case h_2 => cases h
    rename_i t u
    injection h with h
    rw [Oper.semAt_eq _ _ _ (fun c e => by rw [ho] at e; cases e)]
    have hv := he.eval h1
    obtain ⟨u', e, _⟩ := hv.of_iface
    have hrun : (execOp a.eval o).run P w = .halt (.panic (a.eval x)) w := by
      simp [execOp, ho, Instr.panic, e]
    rw [hrun]
    exact pan _ L m w _ h.symm hv hr (.refl m L w)
  · exact plain h
theorem Goal.trans {m : RMap} {w : World} {ds : List Deferred} {N : Nat} {K : Env → LHeap → R} {next : Act → World → Prop} {Q : Exit → Act → World → Prop} (h : Goal P m L w ds N r K next Q)
    {m1 : RMap} {L1 : LHeap} {w1 : World} (ht : Tr m L w m1 L1 w1) : Goal P m1 L1 w1 ds N r K next Q :=
  ⟨fun env' L' m' w' a' h1 h2 h3 h4 => h.go env' L' m' w' a' h1 h2 h3 (ht.trans h4), fun v L' m' w' v' a' h1 h2 h3 h4 => h.pan v L' m' w' v' a' h1 h2 h3 (ht.trans h4)⟩
/-- A region, in the order of its text. -/
theorem lrun_ok {ro : Option Nat} {n : Nat} {call : Caller} {G : Keep} (hc : CallOk G P call) {ops : Array Oper} {N : Nat} {K : Env → LHeap → R} {Q : Exit → Act → World → Prop} : ∀ (rest : List Oper) (i : Nat) (env : Env) (L : LHeap) (m : RMap) (w : World) (a : Act),
    lrun P call ops.toList i rest env L K = some r → dstOk N rest = true → Rep P m L w → G.ok m L w → ER m env a.tmps → a.tmps.size = N → Goal P m L w a.defers N r K (Q .normal) Q → wpListIn (fence ro) n P ops Q rest a w
  | [], i, env, L, m, w, a, h, _, hr, _, he, hN, hG => hG.go env L m w a h hr he (.refl m L w) rfl hN
  | o :: rest, i, env, L, m, w, a, h, hd, hr, hg, he, hN, hG => by
    simp only [dstOk, List.all_cons, Bool.and_eq_true] at hd
    have hd1 : ∀ d, o.dst = some d → d < N := fun d e => by
      have := hd.1
      rw [e] at this
      simpa using this
    unfold lrun at h
    unfold wpListIn
    split at h
    · rename_i hw
      rw [if_pos (wants_ok he hw)]
      refine lstep_ok hc h hr hg he (fun v L' m' w' v' h1 h2 h3 h4 => ?_) fun v L' m' w' v' h1 h2 h3 h4 => hG.pan v L' m' w' v' a h1 h2 h3 h4 rfl
      have h5 := split_ok h1
      refine lrun_ok hc rest (i + 1) _ L' m' w' (a.put o.dst v') h5 hd.2 h3 (hg.tr h4) ((he.mono h4.ext).put h2 (fun d e => hN ▸ hd1 d e) a rfl) (by rw [put_size]; exact hN) ?_
      rw [put_defers]
      exact hG.trans h4
    · rename_i hw
      have := wants_ok he hw
      rw [if_neg (by rw [this]; simp)]
      refine ⟨fun _ _ => trivial, ?_⟩
      refine lrun_ok hc rest (i + 1) _ L m w (a.put o.dst Go.undef) h hd.2 hr hg (he.put .undef (fun d e => hN ▸ hd1 d e) a rfl) (by rw [put_size]; exact hN) ?_
      rw [put_defers]
      exact hG
    · cases h
end
end Go.Rlm
end

section
namespace Go.Rlm
section
variable {P : Program} {r : LR}
theorem evvs_congr {env env' : Env} : ∀ {xs : List Operand}, (∀ x ∈ xs, evv env x = evv env' x) → evvs env xs = evvs env' xs
  | [], _ => rfl
  | x :: xs, h => by
    simp only [evvs, h x (by simp), evvs_congr (xs := xs) fun y hy => h y (by simp [hy])]
theorem evo_congr {env env' : Env} {x : Option Operand} (h : ∀ y, x = some y → evv env y = evv env' y) (K : Option Int → R) : evo env x K = evo env' x K := by
  cases x with
  | none => rfl
  | some y => simp only [evo, ev_eq, h y rfl]
theorem evParts_congr {env env' : Env} (place : Nat → Option (Nat × Nat)) : ∀ {ps : List (Nat × Operand)} (K : List (Nat × Nat × Value) → R), (∀ p ∈ ps, evv env p.2 = evv env' p.2) → evParts env place ps K = evParts env' place ps K
  | [], _, _ => rfl
  | (i, x) :: ps, K, h => by
    simp only [evParts, ev_eq]
    rw [h (i, x) (by simp)]
    cases place i with
    | none => rfl
    | some p =>
      simp only
      congr 1
      funext v
      exact evParts_congr place _ fun q hq => h q (by simp [hq])
theorem lop_congr {env env' : Env} {L : LHeap} {o : Oper} (h : ∀ x ∈ o.op.operands, evv env x = evv env' x) (K : Value → LHeap → R) : lop P env L o K = lop P env' L o K := by
  obtain ⟨dst, op, ty, pos, after, guard⟩ := o
  simp only at h
  cases op with
  | build t ps =>
    have hp : ∀ p ∈ ps.toList, evv env p.2 = evv env' p.2 := fun p hp => h p.2 (by simp only [Op.operands, List.mem_toArray, List.mem_map]; exact ⟨p, hp, rfl⟩)
    simp only [lop]
    split
    · congr 1; congr 1; funext z; exact evParts_congr _ _ hp
    · congr 1; congr 1; funext z; exact evParts_congr _ _ hp
    · rfl
  | buildSlice t n ps =>
    have hp : ∀ p ∈ ps.toList, evv env p.2 = evv env' p.2 := fun p hp => h p.2 (by simp only [Op.operands, List.mem_toArray, List.mem_map]; exact ⟨p, hp, rfl⟩)
    simp only [lop]
    split
    · congr 1; funext z; exact evParts_congr _ _ hp
    · rfl
  | makeFunc f xs ys =>
    have h1 : evvs env xs.toList = evvs env' xs.toList := evvs_congr fun x hx => h x (by simp [Op.operands]; exact .inl (by simpa using hx))
    have h2 : evvs env ys.toList = evvs env' ys.toList := evvs_congr fun x hx => h x (by simp [Op.operands]; exact .inr (by simpa using hx))
    cases f <;> simp only [lop, evs_eq, h1, h2]
  | call c =>
    obtain ⟨callee, args, ts⟩ := c
    cases callee with
    | builtin b =>
      have h1 : evvs env args.toList = evvs env' args.toList := evvs_congr fun x hx => h x (by simp [Op.operands, Call.operands]; simpa using hx)
      simp only [lop, evs_eq, h1]
    | _ => rfl
  | slice t x lo hi mx =>
    have h0 : evv env x = evv env' x := h x (by simp [Op.operands])
    have e1 := fun K => evo_congr (env := env) (env' := env') (x := lo) (fun y hy => h y (by subst hy; simp [Op.operands])) K
    have e2 := fun K => evo_congr (env := env) (env' := env') (x := hi) (fun y hy => h y (by subst hy; simp [Op.operands])) K
    have e3 := fun K => evo_congr (env := env) (env' := env') (x := mx) (fun y hy => h y (by subst hy; simp [Op.operands])) K
    simp only [lop, ev_eq, h0, e1, e2, e3]
  | pick c x y =>
    have h0 := h c (by simp [Op.operands])
    have h1 := h x (by simp [Op.operands])
    have h2 := h y (by simp [Op.operands])
    simp only [lop, ev_eq, h0, h1, h2]
  | store t x y => simp only [lop, ev_eq, h x (by simp [Op.operands]), h y (by simp [Op.operands])]
  | binOp b t x y yt => simp only [lop, ev_eq, h x (by simp [Op.operands]), h y (by simp [Op.operands])]
  | makeSlice t x y => simp only [lop, ev_eq, h x (by simp [Op.operands]), h y (by simp [Op.operands])]
  | indexAddr t x y => simp only [lop, ev_eq, h x (by simp [Op.operands]), h y (by simp [Op.operands])]
  | index t x y => simp only [lop, ev_eq, h x (by simp [Op.operands]), h y (by simp [Op.operands])]
  | move x => simp only [lop, ev_eq, h x (by simp [Op.operands])]
  | assign x => simp only [lop, ev_eq, h x (by simp [Op.operands])]
  | box t x => simp only [lop, ev_eq, h x (by simp [Op.operands])]
  | load t x => simp only [lop, ev_eq, h x (by simp [Op.operands])]
  | nilCheck x => simp only [lop, ev_eq, h x (by simp [Op.operands])]
  | unOp u t x => simp only [lop, ev_eq, h x (by simp [Op.operands])]
  | convert s d x => simp only [lop, ev_eq, h x (by simp [Op.operands])]
  | makeInterface t x => simp only [lop, ev_eq, h x (by simp [Op.operands])]
  | fieldAddr s x j => simp only [lop, ev_eq, h x (by simp [Op.operands])]
  | field s x j => simp only [lop, ev_eq, h x (by simp [Op.operands])]
  | extract x j => simp only [lop, ev_eq, h x (by simp [Op.operands])]
  | typeAssert x s t ok => simp only [lop, ev_eq, h x (by simp [Op.operands])]
  | makeMap t x => cases x <;> rfl
  | lookup t x y ok => simp only [lop, ev_eq, h x (by simp [Op.operands]), h y (by simp [Op.operands])]
  | mapUpdate t x y z => simp only [lop, ev_eq, h x (by simp [Op.operands]), h y (by simp [Op.operands]), h z (by simp [Op.operands])]
  | mapEntry t x y => simp only [lop, ev_eq, h x (by simp [Op.operands]), h y (by simp [Op.operands])]
  | entryStore t x y z => simp only [lop, ev_eq, h x (by simp [Op.operands]), h y (by simp [Op.operands]), h z (by simp [Op.operands])]
  | _ => rfl
theorem lstepD_congr {call : Caller} {env env' : Env} {L : LHeap} {o : Oper} (h : ∀ x ∈ o.op.operands, evv env x = evv env' x) (K : Value → LHeap → R) : lstepD P call env L o K = lstepD P call env' L o K := by
  unfold lstepD
  split
  · rename_i f args ts ho
    have h1 : evv env f = evv env' f := h f (by rw [ho]; simp [Op.operands, Call.operands])
    have h2 : evvs env args.toList = evvs env' args.toList := evvs_congr fun x hx => h x (by rw [ho]; simp [Op.operands, Call.operands]; exact .inr (by simpa using hx))
    simp only [ev_eq, evs_eq, h1, h2]
  · exact lop_congr h K
/-- The part of the temporaries that some slots are. -/
def res (env : Env) (ts : List Nat) : Env := env.filter fun p => ts.contains p.1
theorem look_res {env : Env} {ts : List Nat} {t : Nat} : look (res env ts) t = if t ∈ ts then look env t else none := by
  induction env with
  | nil => simp [res, look]
  | cons p env ih =>
    obtain ⟨s, v⟩ := p
    unfold res at ih ⊢
    by_cases hs : ts.contains s
    · rw [List.filter_cons_of_pos (by simpa using hs)]
      simp only [look, ih, hif_eq, cond_eq_ite]
      split
      · rename_i hb
        have := Nat.eq_of_beq_eq_true hb
        subst this
        rw [if_pos (by simpa using hs)]
      · rfl
    · rw [List.filter_cons_of_neg (by simpa using hs)]
      simp only [look, ih, hif_eq, cond_eq_ite]
      split
      · rename_i ht
        rw [if_neg]
        intro hb
        have := Nat.eq_of_beq_eq_true hb
        subst this
        exact hs (by simpa using ht)
      · rfl
theorem evv_res {env : Env} {ts : List Nat} {x : Operand} (h : ∀ t, x = .tmp t → t ∈ ts) : evv (res env ts) x = evv env x := by
  cases x with
  | tmp t => simp only [evv, look_res, h t rfl, if_true]
  | _ => rfl
theorem operands_tmps {ops : List Oper} {o : Oper} {x : Operand} (hx : x ∈ o.op.operands) {t : Nat} (h : x = .tmp t) : t ∈ tmpsOf ops o := by
  unfold tmpsOf
  refine List.mem_append.2 (.inl ?_)
  rw [List.mem_filterMap]
  exact ⟨x, by simpa using hx, by rw [h]⟩
theorem lop_res {env : Env} {ops : List Oper} {L : LHeap} {o : Oper} (K : Value → LHeap → R) : lop P (res env (tmpsOf ops o)) L o K = lop P env L o K :=
  lop_congr (fun _ hx => evv_res fun _ ht => operands_tmps hx ht) K
theorem lstepD_res {call : Caller} {env : Env} {ops : List Oper} {L : LHeap} {o : Oper} (K : Value → LHeap → R) : lstepD P call (res env (tmpsOf ops o)) L o K = lstepD P call env L o K :=
  lstepD_congr (fun _ hx => evv_res fun _ ht => operands_tmps hx ht) K
theorem wants_res {env : Env} {ops : List Oper} {o : Oper} : wants ops (res env (tmpsOf ops o)) o = wants ops env o := by
  unfold wants
  split
  · rfl
  · rename_i j w hg
    split
    · rfl
    · rename_i d hd
      have : d ∈ tmpsOf ops o := by
        unfold tmpsOf
        refine List.mem_append.2 (.inr ?_)
        rw [hg]; simp [hd]
      rw [look_res, if_pos this]
structure Rec where
  env : Env
  L : LHeap
  v : Value
  L' : LHeap
  t : Nat
/-- It yields v in this heap, and leaves it. -/
def Val (P : Program) (o : Oper) (env : Env) (L : LHeap) (v : Value) : Prop := ∀ K2, lop P env L o K2 = K2 v L
inductive Trc (P : Program) (call : Caller) (ops : List Oper) (bef : List Nat) (tw : Bool) : Nat → List Oper → Env → LHeap → List (Nat × LHeap) → List (Nat × Read) → List Rec → Env → LHeap → Prop
  | nil {i env L past log} : Trc P call ops bef tw i [] env L past log [] env L
  | skip {i o rest env L past log tr e' L'} (hw : wants ops env o = some false) (h : Trc P call ops bef tw (i + 1) rest (put env o.dst (.tuple #[])) L past log tr e' L') :
      Trc P call ops bef tw i (o :: rest) env L past log (⟨env, L, .tuple #[], L, 0⟩ :: tr) e' L'
  | pure {i o rest env L past log tr e' L' v} (hw : wants ops env o = some true) (hk : kindOf P o.op = .pure) (hv : ∀ L2, Val P o env L2 v) (h : Trc P call ops bef tw (i + 1) rest (put env o.dst v) L past log tr e' L') :
      Trc P call ops bef tw i (o :: rest) env L past log (⟨env, L, v, L, 1⟩ :: tr) e' L'
  | read {i o rest env L past log tr e' L' v} (hw : wants ops env o = some true) (hk : kindOf P o.op = .read) (hv : Val P o env L v) (hp : ∀ q H, (q, H) ∈ past → tbit (bef.getD i 0) q = false → Val P o env H v)
      (h : Trc P call ops bef tw (i + 1) rest (put env o.dst v) L past ((i, ⟨o, env, v⟩) :: log) tr e' L') : Trc P call ops bef tw i (o :: rest) env L past log (⟨env, L, v, L, 2⟩ :: tr) e' L'
  | write {i o rest env L L1 past log tr e' L' v} (hw : wants ops env o = some true) (hk : kindOf P o.op = .write) (hv : ∀ K2, lstepD P call env L o K2 = K2 v L1) (hp : ∀ q H, (q, H) ∈ past → tbit (bef.getD i 0) q = true ∨ (tw = true ∧ i = 1))
      (hl : ∀ q rd, (q, rd) ∈ log → tbit (bef.getD i 0) q = false → Val P rd.o rd.env L1 rd.v)
      (h : Trc P call ops bef tw (i + 1) rest (put env o.dst v) L1 ((i, L) :: past) log tr e' L') : Trc P call ops bef tw i (o :: rest) env L past log (⟨env, L, v, L1, 3⟩ :: tr) e' L'
theorem read_same {o : Oper} {env : Env} {L : LHeap} {K : Value → LHeap → R} (hk : kindOf P o.op ≠ .write) (h : lop P env L o K = some r) : ∃ v, K v L = some r ∧ Val P o env L v := by
  obtain ⟨v, L', h1, h2, h3, _⟩ := lop_ok h
  rcases h3 with ⟨rfl, _⟩ | ⟨h3, _⟩
  · exact ⟨v, h1, h2⟩
  · exact absurd h3 hk
theorem reread_ok {rd : Read} {L : LHeap} {K : R} (hk : kindOf P rd.o.op ≠ .write) (h : reread P rd L K = some r) : K = some r ∧ Val P rd.o rd.env L rd.v := by
  unfold reread at h
  obtain ⟨v, h1, h2⟩ := read_same hk h
  rw [when_iff] at h1
  have := same_eq h1.1
  subst this
  exact ⟨h1.2, h2⟩
theorem rereadIn_ok {rd : Read} {bits : Nat} {K : R} (hk : kindOf P rd.o.op ≠ .write) : ∀ {past : List (Nat × LHeap)}, rereadIn P rd bits past K = some r → K = some r ∧ ∀ q H, (q, H) ∈ past → tbit bits q = false → Val P rd.o rd.env H rd.v
  | [], h => ⟨h, by simp⟩
  | (q, H) :: ps, h => by
    simp only [rereadIn, hif_eq, cond_eq_ite] at h
    split at h
    · rename_i hb
      obtain ⟨h1, h2⟩ := rereadIn_ok hk h
      refine ⟨h1, fun q' H' hm hb' => ?_⟩
      rcases List.mem_cons.1 hm with e | hm
      · injection e with e1 e2; subst e1; rw [hb] at hb'; cases hb'
      · exact h2 q' H' hm hb'
    · obtain ⟨h0, h3⟩ := reread_ok hk h
      obtain ⟨h1, h2⟩ := rereadIn_ok hk h0
      refine ⟨h1, fun q' H' hm hb' => ?_⟩
      rcases List.mem_cons.1 hm with e | hm
      · injection e with e1 e2; subst e1; subst e2; exact h3
      · exact h2 q' H' hm hb'
theorem rereadAll_ok {bits : Nat} {L : LHeap} {K : R} : ∀ {log : List (Nat × Read)}, (∀ q rd, (q, rd) ∈ log → kindOf P rd.o.op ≠ .write) → rereadAll P bits L log K = some r →
    K = some r ∧ ∀ q rd, (q, rd) ∈ log → tbit bits q = false → Val P rd.o rd.env L rd.v
  | [], _, h => ⟨h, by simp⟩
  | (q, rd) :: ps, hk, h => by
    simp only [rereadAll, hif_eq, cond_eq_ite] at h
    split at h
    · rename_i hb
      obtain ⟨h1, h2⟩ := rereadAll_ok (fun q' rd' hm => hk q' rd' (by simp [hm])) h
      refine ⟨h1, fun q' H' hm hb' => ?_⟩
      rcases List.mem_cons.1 hm with e | hm
      · injection e with e1 e2; subst e1; rw [hb] at hb'; cases hb'
      · exact h2 q' H' hm hb'
    · obtain ⟨h0, h3⟩ := reread_ok (hk q rd (by simp)) h
      obtain ⟨h1, h2⟩ := rereadAll_ok (fun q' rd' hm => hk q' rd' (by simp [hm])) h0
      refine ⟨h1, fun q' H' hm hb' => ?_⟩
      rcases List.mem_cons.1 hm with e | hm
      · injection e with e1 e2; subst e1; subst e2; exact h3
      · exact h2 q' H' hm hb'
theorem pastOk_ok {bits : Nat} : ∀ {past : List (Nat × LHeap)}, pastOk bits past = true → ∀ q H, (q, H) ∈ past → tbit bits q = true
  | [], _, _, _, hm => by simp at hm
  | (q, H) :: ps, h, q', H', hm => by
    simp only [pastOk, Bool.and_eq_true] at h
    rcases List.mem_cons.1 hm with e | hm
    · injection e with e1 e2; subst e1; exact h.1
    · exact pastOk_ok h.2 q' H' hm
theorem lstepD_unif {call : Caller} {env : Env} {L : LHeap} {o : Oper} {K : Value → LHeap → R} (h : lstepD P call env L o K = some r) : ∃ v L1, K v L1 = some r ∧ ∀ K2, lstepD P call env L o K2 = K2 v L1 := by
  unfold lstepD at h ⊢
  split at h
  · rename_i f args ts ho
    simp only [ev_eq, evs_eq, obind_iff] at h
    obtain ⟨fv, h1, vs, h2, h⟩ := h
    cases hl : lapp call fv vs L with
    | none => rw [hl] at h; cases h
    | some r1 =>
      rw [hl] at h
      cases r1 with
      | pan v L => cases h
      | gate b v L1 =>
        cases b with
        | false => cases h
        | true =>
          have h : typed P o.type v (fun v => K v L1) = some r := h
          obtain ⟨h3, h4⟩ := typed_same (K := fun v => K v L1) h
          refine ⟨v, L1, h3, fun K2 => ?_⟩
          simp only [ev_eq, evs_eq, h1, h2, obind_some, hl]
          exact (typed_same (K := fun v => K v L1) h).2 (fun v => K2 v L1)
      | alt g b v L1 v2 L2 =>
        cases g with
        | false => cases h
        | true =>
          cases b with
          | true =>
            have h : typed P o.type v (fun v => K v L1) = some r := h
            obtain ⟨h3, h4⟩ := typed_same (K := fun v => K v L1) h
            refine ⟨v, L1, h3, fun K2 => ?_⟩
            simp only [ev_eq, evs_eq, h1, h2, obind_some, hl]
            exact (typed_same (K := fun v => K v L1) h).2 (fun v => K2 v L1)
          | false =>
            have h : typed P o.type v2 (fun v => K v L2) = some r := h
            obtain ⟨h3, h4⟩ := typed_same (K := fun v => K v L2) h
            refine ⟨v2, L2, h3, fun K2 => ?_⟩
            simp only [ev_eq, evs_eq, h1, h2, obind_some, hl]
            exact (typed_same (K := fun v => K v L2) h).2 (fun v => K2 v L2)
      | ret v L1 =>
        simp only [lbindR_ret] at h
        obtain ⟨h3, h4⟩ := typed_same (K := fun v => K v L1) h
        refine ⟨v, L1, h3, fun K2 => ?_⟩
        simp only [ev_eq, evs_eq, h1, h2, obind_some, hl, lbindR_ret]
        exact (typed_same (K := fun v => K v L1) h).2 (fun v => K2 v L1)
  · obtain ⟨v, L1, h1, h2, _⟩ := lop_ok h
    exact ⟨v, L1, h1, h2⟩
theorem ldraw_trc {call : Caller} {ops : List Oper} {bef : List Nat} {tw : Bool} {K : Env → LHeap → R} : ∀ (rest : List Oper) (i : Nat) (env : Env) (L : LHeap) (past : List (Nat × LHeap)) (log : List (Nat × Read)),
    (∀ q rd, (q, rd) ∈ log → kindOf P rd.o.op ≠ .write) → ldraw P call ops bef tw i rest env L past log K = some r → ∃ tr e' L', Trc P call ops bef tw i rest env L past log tr e' L' ∧ K e' L' = some r
  | [], i, env, L, past, log, _, h => ⟨[], env, L, .nil, h⟩
  | o :: rest, i, env, L, past, log, hlog, h => by
    unfold ldraw at h
    split at h
    · rename_i hw
      split at h
      · rename_i hk
        obtain ⟨v, L', h1, h2, h3, h4⟩ := lop_ok h
        have h4 := h4 hk
        have h5 := split_ok h1
        obtain ⟨tr, e', L2, h6, h7⟩ := ldraw_trc rest (i + 1) _ L past log hlog h5
        exact ⟨_, e', L2, .pure hw hk h4 h6, h7⟩
      · rename_i hk
        obtain ⟨v, h1, h2⟩ := read_same (by rw [hk]; intro h; cases h) h
        obtain ⟨h3, h4⟩ := rereadIn_ok (rd := ⟨o, env, v⟩) (by simp only; rw [hk]; intro h; cases h) h1
        have h5 := split_ok h3
        obtain ⟨tr, e', L2, h6, h7⟩ := ldraw_trc rest (i + 1) _ L past _ (fun q rd hm => by
          rcases List.mem_cons.1 hm with e | hm
          · injection e with e1 e2; subst e2; simp only; rw [hk]; intro h; cases h
          · exact hlog q rd hm) h5
        exact ⟨_, e', L2, .read hw hk h2 h4 h6, h7⟩
      · rename_i hk
        rw [when_iff, Bool.or_eq_true, Bool.and_eq_true] at h
        obtain ⟨hp, h⟩ := h
        have hp : ∀ q H, (q, H) ∈ past → tbit (bef.getD i 0) q = true ∨ (tw = true ∧ i = 1) := fun q H hm => by
          rcases hp with hp | ⟨h1, h2⟩
          · exact .inl (pastOk_ok hp q H hm)
          · exact .inr ⟨h1, Nat.eq_of_beq_eq_true h2⟩
        obtain ⟨v, L1, h1, h2⟩ := lstepD_unif h
        obtain ⟨h3, h4⟩ := rereadAll_ok hlog h1
        have h5 := split_ok h3
        obtain ⟨tr, e', L2, h6, h7⟩ := ldraw_trc rest (i + 1) _ L1 _ log hlog h5
        exact ⟨_, e', L2, .write hw hk h2 hp h4 h6, h7⟩
    · rename_i hw
      obtain ⟨tr, e', L2, h6, h7⟩ := ldraw_trc rest (i + 1) _ L past log hlog h
      exact ⟨_, e', L2, .skip hw h6, h7⟩
    · cases h
end
end Go.Rlm
end

section
namespace Go.Rlm
section
variable {P : Program} {r : LR} {call : Caller} {ops : List Oper} {bef : List Nat} {tw : Bool}
/-- What is known of one operation of the trace by itself. -/
def Loc (P : Program) (call : Caller) (ops : List Oper) (o : Oper) (rc : Rec) : Prop :=
  (rc.t = 0 ∧ wants ops rc.env o = some false ∧ rc.v = .tuple #[] ∧ rc.L' = rc.L) ∨
  (rc.t = 1 ∧ wants ops rc.env o = some true ∧ kindOf P o.op = .pure ∧ rc.L' = rc.L ∧ ∀ L2, Val P o rc.env L2 rc.v) ∨
  (rc.t = 2 ∧ wants ops rc.env o = some true ∧ kindOf P o.op = .read ∧ rc.L' = rc.L ∧ Val P o rc.env rc.L rc.v) ∨
  (rc.t = 3 ∧ wants ops rc.env o = some true ∧ kindOf P o.op = .write ∧ ∀ K2, lstepD P call rc.env rc.L o K2 = K2 rc.v rc.L')
theorem Trc.length {i rest env L past log tr e' L'} (h : Trc P call ops bef tw i rest env L past log tr e' L') : tr.length = rest.length := by
  induction h <;> simp_all
/-- How the records hang together. -/
theorem Trc.chain {i rest env L past log tr e' L'} (h : Trc P call ops bef tw i rest env L past log tr e' L') :
    (tr = [] → e' = env ∧ L' = L) ∧ (∀ rc, tr[0]? = some rc → rc.env = env ∧ rc.L = L) ∧
    ∀ (j : Nat) (rc : Rec) (o : Oper), tr[j]? = some rc → rest[j]? = some o → Loc P call ops o rc ∧
      ((∃ rc', tr[j + 1]? = some rc' ∧ rc'.env = put rc.env o.dst rc.v ∧ rc'.L = rc.L') ∨ (tr[j + 1]? = none ∧ e' = put rc.env o.dst rc.v ∧ L' = rc.L')) := by
  have step : ∀ {o : Oper} {rest : List Oper} {rc0 : Rec} {tr : List Rec} {env' : Env} {L1 : LHeap} {e' : Env} {L' : LHeap}, env' = put rc0.env o.dst rc0.v → L1 = rc0.L' → Loc P call ops o rc0 →
      (tr = [] → e' = env' ∧ L' = L1) → (∀ rc, tr[0]? = some rc → rc.env = env' ∧ rc.L = L1) →
      (∀ (j : Nat) (rc : Rec) (o : Oper), tr[j]? = some rc → rest[j]? = some o → Loc P call ops o rc ∧
        ((∃ rc', tr[j + 1]? = some rc' ∧ rc'.env = put rc.env o.dst rc.v ∧ rc'.L = rc.L') ∨ (tr[j + 1]? = none ∧ e' = put rc.env o.dst rc.v ∧ L' = rc.L'))) →
      ∀ (j : Nat) (rc : Rec) (o' : Oper), (rc0 :: tr)[j]? = some rc → (o :: rest)[j]? = some o' → Loc P call ops o' rc ∧
        ((∃ rc', (rc0 :: tr)[j + 1]? = some rc' ∧ rc'.env = put rc.env o'.dst rc.v ∧ rc'.L = rc.L') ∨ ((rc0 :: tr)[j + 1]? = none ∧ e' = put rc.env o'.dst rc.v ∧ L' = rc.L')) := by
    intro o rest rc0 tr env' L1 e' L' h1 h2 h3 h4 h5 h6 j rc o' h7 h8
    cases j with
    | zero =>
      simp at h7 h8
      subst h7; subst h8
      refine ⟨h3, ?_⟩
      cases tr with
      | nil =>
        obtain ⟨g1, g2⟩ := h4 rfl
        exact .inr ⟨rfl, g1.trans h1, g2.trans h2⟩
      | cons x tr =>
        obtain ⟨g1, g2⟩ := h5 x rfl
        exact .inl ⟨x, rfl, g1.trans h1, g2.trans h2⟩
    | succ j =>
      simp at h7 h8
      simpa using h6 j rc o' h7 h8
  induction h with
  | nil => exact ⟨fun _ => ⟨rfl, rfl⟩, by simp, by simp⟩
  | skip hw h ih =>
    refine ⟨fun h => by simp at h, fun rc h => ?_, step rfl rfl (.inl ⟨rfl, hw, rfl, rfl⟩) ih.1 ih.2.1 ih.2.2⟩
    simp at h; subst h; exact ⟨rfl, rfl⟩
  | pure hw hk hv h ih =>
    refine ⟨fun h => by simp at h, fun rc h => ?_, step rfl rfl (.inr (.inl ⟨rfl, hw, hk, rfl, hv⟩)) ih.1 ih.2.1 ih.2.2⟩
    simp at h; subst h; exact ⟨rfl, rfl⟩
  | read hw hk hv hp h ih =>
    refine ⟨fun h => by simp at h, fun rc h => ?_, step rfl rfl (.inr (.inr (.inl ⟨rfl, hw, hk, rfl, hv⟩))) ih.1 ih.2.1 ih.2.2⟩
    simp at h; subst h; exact ⟨rfl, rfl⟩
  | write hw hk hv hp hl h ih =>
    refine ⟨fun h => by simp at h, fun rc h => ?_, step rfl rfl (.inr (.inr (.inr ⟨rfl, hw, hk, hv⟩))) ih.1 ih.2.1 ih.2.2⟩
    simp at h; subst h; exact ⟨rfl, rfl⟩
/-- Reads and writes with what lies ahead of the trace. -/
theorem Trc.ahead {i rest env L past log tr e' L'} (h : Trc P call ops bef tw i rest env L past log tr e' L') : ∀ (j : Nat) (rc : Rec) (o : Oper), tr[j]? = some rc → rest[j]? = some o →
    (rc.t = 3 → (∀ q H, (q, H) ∈ past → tbit (bef.getD (i + j) 0) q = true ∨ (tw = true ∧ i + j = 1)) ∧ (∀ q rd, (q, rd) ∈ log → tbit (bef.getD (i + j) 0) q = false → Val P rd.o rd.env rc.L' rd.v)) ∧
    (rc.t = 2 → ∀ q H, (q, H) ∈ past → tbit (bef.getD (i + j) 0) q = false → Val P o rc.env H rc.v) := by
  induction h with
  | nil => intro j rc o h; simp at h
  | skip hw h ih =>
    intro j rc o h1 h2
    cases j with
    | zero => simp at h1; subst h1; exact ⟨fun e => by simp at e, fun e => by simp at e⟩
    | succ j =>
      simp at h1 h2
      have := ih j rc o h1 h2
      simpa [Nat.add_assoc, Nat.add_comm 1 j] using this
  | pure hw hk hv h ih =>
    intro j rc o h1 h2
    cases j with
    | zero => simp at h1; subst h1; exact ⟨fun e => by simp at e, fun e => by simp at e⟩
    | succ j =>
      simp at h1 h2
      have := ih j rc o h1 h2
      simpa [Nat.add_assoc, Nat.add_comm 1 j] using this
  | read hw hk hv hp h ih =>
    intro j rc o h1 h2
    cases j with
    | zero => simp at h1 h2; subst h1; subst h2; exact ⟨fun e => by simp at e, fun _ => hp⟩
    | succ j =>
      simp at h1 h2
      obtain ⟨g1, g2⟩ := ih j rc o h1 h2
      rw [show ∀ i, i + 1 + j = i + (j + 1) from fun i => by omega] at g1 g2
      exact ⟨fun e => ⟨(g1 e).1, fun q rd hm => (g1 e).2 q rd (List.mem_cons_of_mem _ hm)⟩, g2⟩
  | write hw hk hv hp hl h ih =>
    intro j rc o h1 h2
    cases j with
    | zero => simp at h1 h2; subst h1; subst h2; exact ⟨fun _ => ⟨hp, hl⟩, fun e => by simp at e⟩
    | succ j =>
      simp at h1 h2
      obtain ⟨g1, g2⟩ := ih j rc o h1 h2
      rw [show ∀ i, i + 1 + j = i + (j + 1) from fun i => by omega] at g1 g2
      exact ⟨fun e => ⟨fun q H hm => (g1 e).1 q H (List.mem_cons_of_mem _ hm), (g1 e).2⟩, fun e q H hm => g2 e q H (List.mem_cons_of_mem _ hm)⟩
/-- Reads and writes with one another. -/
theorem Trc.pairs {i rest env L past log tr e' L'} (h : Trc P call ops bef tw i rest env L past log tr e' L') : ∀ (j k : Nat) (rc rk : Rec) (o ok : Oper), j < k → tr[j]? = some rc → tr[k]? = some rk → rest[j]? = some o → rest[k]? = some ok →
    (rc.t = 3 → rk.t = 3 → tbit (bef.getD (i + k) 0) (i + j) = true ∨ (tw = true ∧ i + k = 1)) ∧
    (rc.t = 3 → rk.t = 2 → tbit (bef.getD (i + k) 0) (i + j) = false → Val P ok rk.env rc.L rk.v) ∧
    (rc.t = 2 → rk.t = 3 → tbit (bef.getD (i + k) 0) (i + j) = false → Val P o rc.env rk.L' rc.v) := by
  induction h with
  | nil => intro j k rc rk o ok hj h; simp at h
  | skip hw h ih =>
    intro j k rc rk o ok hj h1 h2 h3 h4
    cases k with
    | zero => omega
    | succ k =>
      cases j with
      | zero => simp at h1; subst h1; exact ⟨fun e => by simp at e, fun e => by simp at e, fun e => by simp at e⟩
      | succ j =>
        simp at h1 h2 h3 h4
        have := ih j k rc rk o ok (by omega) h1 h2 h3 h4
        simpa [Nat.add_assoc, Nat.add_comm 1] using this
  | pure hw hk hv h ih =>
    intro j k rc rk o ok hj h1 h2 h3 h4
    cases k with
    | zero => omega
    | succ k =>
      cases j with
      | zero => simp at h1; subst h1; exact ⟨fun e => by simp at e, fun e => by simp at e, fun e => by simp at e⟩
      | succ j =>
        simp at h1 h2 h3 h4
        have := ih j k rc rk o ok (by omega) h1 h2 h3 h4
        simpa [Nat.add_assoc, Nat.add_comm 1] using this
  | @read i o rest env L past log tr e' L' v hw hk hv hp h ih =>
    intro j k rc rk o2 ok hj h1 h2 h3 h4
    cases k with
    | zero => omega
    | succ k =>
      cases j with
      | zero =>
        simp at h1 h2 h3 h4
        subst h1; subst h3
        obtain ⟨g1, _⟩ := h.ahead k rk ok h2 h4
        rw [show i + 1 + k = i + (k + 1) by omega] at g1
        exact ⟨fun e => by simp at e, fun e => by simp at e, fun _ e hb => (g1 e).2 i ⟨o, env, v⟩ (by simp) (by simpa using hb)⟩
      | succ j =>
        simp at h1 h2 h3 h4
        have := ih j k rc rk o2 ok (by omega) h1 h2 h3 h4
        simpa [Nat.add_assoc, Nat.add_comm 1] using this
  | @write i o rest env L L1 past log tr e' L' v hw hk hv hp hl h ih =>
    intro j k rc rk o2 ok hj h1 h2 h3 h4
    cases k with
    | zero => omega
    | succ k =>
      cases j with
      | zero =>
        simp at h1 h2 h3 h4
        subst h1; subst h3
        obtain ⟨g1, g2⟩ := h.ahead k rk ok h2 h4
        rw [show i + 1 + k = i + (k + 1) by omega] at g1 g2
        exact ⟨fun _ e => by simpa using (g1 e).1 i L (by simp), fun _ e hb => g2 e i L (by simp) (by simpa using hb), fun e => by simp at e⟩
      | succ j =>
        simp at h1 h2 h3 h4
        have := ih j k rc rk o2 ok (by omega) h1 h2 h3 h4
        simpa [Nat.add_assoc, Nat.add_comm 1] using this
theorem tbit_eq (x n : Nat) : tbit x n = x.testBit n := by
  rw [Nat.testBit_eq_decide_div_mod_eq]
  unfold tbit
  by_cases h : x / 2 ^ n % 2 = 1
  · rw [h]; rfl
  · rw [decide_eq_false h]
    cases hb : (x / 2 ^ n % 2).beq 1 with
    | false => rfl
    | true => exact absurd (Nat.eq_of_beq_eq_true hb) h
theorem tbit_or (a b n : Nat) : tbit (a ||| b) n = (tbit a n || tbit b n) := by rw [tbit_eq, tbit_eq, tbit_eq, Nat.testBit_or]
theorem tbit_pow (a n : Nat) : tbit (2 ^ a) n = decide (a = n) := by rw [tbit_eq, Nat.testBit_two_pow]
theorem tbit_zero (n : Nat) : tbit 0 n = false := by rw [tbit_eq, Nat.zero_testBit]
theorem befores_get : ∀ (l : List Oper) (acc : List Nat) (j : Nat) (o : Oper), l[j]? = some o → ∀ i, tbit ((befores l acc).getD (acc.length + j) 0) i = true →
    ∃ e ∈ o.after.toList, Region.binds .any e = true ∧ (e.on = i ∨ (e.on < acc.length + j ∧ tbit ((befores l acc).getD e.on 0) i = true))
  | [], _, _, _, h => by simp at h
  | x :: l, acc, j, o, h => by
    intro i hi
    have keepAcc : ∀ (l : List Oper) (acc : List Nat) (q : Nat), q < acc.length → (befores l acc).getD q 0 = acc.getD q 0 := by
      intro l
      induction l with
      | nil => intro acc q _; rfl
      | cons x l ih =>
        intro acc q hq
        simp only [befores]
        rw [ih _ q (by simp; omega)]
        simp [List.getD, List.getElem?_append_left hq]
    cases j with
    | zero =>
      simp at h
      subst h
      simp only [befores, Nat.add_zero] at hi ⊢
      rw [keepAcc _ _ acc.length (by simp)] at hi
      have e0 : (acc ++ [x.after.toList.foldl (fun s e => bif Region.binds .any e then s ||| 2 ^ e.on ||| acc.getD e.on 0 else s) 0]).getD acc.length 0 = x.after.toList.foldl (fun s e => bif Region.binds .any e then s ||| 2 ^ e.on ||| acc.getD e.on 0 else s) 0 := by simp [List.getD]
      rw [e0] at hi
      have fold : ∀ (es : List Edge) (s : Nat), tbit (es.foldl (fun s e => bif Region.binds .any e then s ||| 2 ^ e.on ||| acc.getD e.on 0 else s) s) i = true → tbit s i = true ∨ ∃ e ∈ es, Region.binds .any e = true ∧ (e.on = i ∨ tbit (acc.getD e.on 0) i = true) := by
        intro es
        induction es with
        | nil => intro s h; exact .inl h
        | cons e es ih =>
          intro s h
          rw [List.foldl_cons] at h
          rcases ih _ h with h1 | ⟨e', h1, h2⟩
          · cases hb : Region.binds .any e with
            | false => rw [hb] at h1; exact .inl h1
            | true =>
              rw [hb] at h1
              simp only [hif_true, cond_true, tbit_or, tbit_pow, Bool.or_eq_true, decide_eq_true_eq] at h1
              rcases h1 with (h1 | h1) | h1
              · exact .inl h1
              · exact .inr ⟨e, by simp, hb, .inl h1⟩
              · exact .inr ⟨e, by simp, hb, .inr h1⟩
          · exact .inr ⟨e', by simp [h1], h2⟩
      rcases fold _ 0 hi with h1 | ⟨e, h1, h2, h3⟩
      · rw [tbit_zero] at h1; cases h1
      · refine ⟨e, h1, h2, ?_⟩
        rcases h3 with h3 | h3
        · exact .inl h3
        · have hlt : e.on < acc.length := by
            rcases Nat.lt_or_ge e.on acc.length with h | h
            · exact h
            · simp [List.getD, List.getElem?_eq_none h, tbit_zero] at h3
          refine .inr ⟨hlt, ?_⟩
          rw [keepAcc _ _ e.on (by simp; omega)]
          simpa [List.getD, List.getElem?_append_left hlt] using h3
    | succ j =>
      simp only [List.getElem?_cons_succ] at h
      simp only [befores] at hi ⊢
      have e1 : ∀ c : Nat, (acc ++ [c]).length + j = acc.length + (j + 1) := fun c => by simp; omega
      have := befores_get l _ j o h i (by rw [e1]; exact hi)
      obtain ⟨e, h1, h2, h3⟩ := this
      refine ⟨e, h1, h2, ?_⟩
      rcases h3 with h3 | ⟨h3, h4⟩
      · exact .inl h3
      · exact .inr ⟨by rw [e1] at h3; exact h3, h4⟩
theorem bef_get {j : Nat} {o : Oper} (h : ops[j]? = some o) {i : Nat} (hi : tbit ((befores ops []).getD j 0) i = true) :
    ∃ e ∈ o.after.toList, Region.binds .any e = true ∧ (e.on = i ∨ tbit ((befores ops []).getD e.on 0) i = true) := by
  obtain ⟨e, h1, h2, h3⟩ := befores_get ops [] j o h i (by simpa using hi)
  refine ⟨e, h1, h2, ?_⟩
  rcases h3 with h3 | ⟨_, h3⟩
  · exact .inl h3
  · exact .inr h3
end
end Go.Rlm
end

section
namespace Go.Rlm
section
variable {P : Program} {r : LR} {call : Caller} {ops : Array Oper}
/-- A step that may not panic. -/
theorem lstepD_ok {ro : Option Nat} {n : Nat} {G : Keep} (hc : CallOk G P call) {env : Env} {L L1 : LHeap} {o : Oper} {v : Value} (h : ∀ K2, lstepD P call env L o K2 = K2 v L1) {m : RMap} {w : World} {a : Act} (hr : Rep P m L w) (hg : G.ok m L w) (he : ER m env a.tmps)
    {next : Act → World → Prop} {Q : Exit → Act → World → Prop} (go : ∀ m' w' v', VR m' v v' → Rep P m' L1 w' → Tr m L w m' L1 w' → next (a.put o.dst v') w') : o.wpIn (fence ro) n P a w next Q := by
  refine ⟨fun _ _ => trivial, ?_⟩
  have h0 := h fun v L => some (.ret v L)
  unfold lstepD at h0
  split at h0
  · rename_i f args ts ho
    simp only [ev_eq, evs_eq, obind_iff] at h0
    obtain ⟨fv, h1, vs, h2, h0⟩ := h0
    have hf := he.eval h1
    have hvs := he.evals h2
    rw [Oper.semAt_eq _ _ _ (fun c e => by rw [ho] at e; cases e)]
    unfold lapp at h0
    split at h0
    case h_3 => cases h0
    case h_2 =>
      rename_i j az bs
      obtain ⟨i, hi, hfv⟩ := hf.of_yield
      cases hcall : call (j + YB) vs L with
      | none => rw [hcall] at h0; cases h0
      | some r0 =>
        rw [hcall] at h0
        obtain ⟨r1, hreal, h0, hng⟩ := lbindR_real h0
        obtain ⟨fn, tmps, assign, body, g1, g2⟩ := hc.rounds j vs L r0 r1 hcall hreal m w _ i hr hg hvs hi
        have hrun : (execOp a.eval o).run P w = .ok (.round i.blk fn tmps assign body) w := by
          have e : (args.map a.eval) = ⟨args.toList.map a.eval⟩ := by apply Array.ext'; simp
          simp only [execOp, ho, resolve, hfv, Deferred.ofValue, Sem.run_bind, Sem.run_pure, Result.andThen_ok, invoke, e]
          simpa using g1
        rw [hrun]
        refine ⟨(fun h => by cases h), (g2 ro _).mono fun e w' hE => ?_⟩
        cases r1 with
        | ret u L2 =>
          obtain ⟨m', v', rfl, h4, h5, h6⟩ := hE
          simp only [lbindR_ret] at h0
          have h7 := (typed_same (K := fun v => some (.ret v L2)) h0).1
          injection h7 with h7; injection h7 with h7 h8
          subst h7; subst h8
          exact go m' w' v' h4 h5 h6
        | pan u L2 => cases h0
        | gate b u L2 => cases hng
        | alt g b u L2 u' L3 => cases hng
    rename_i g az bs
    cases hgb : Nat.blt g YB with
    | false => rw [hgb] at h0; cases h0
    | true =>
    rw [hgb, hif_true] at h0
    have hgy : g < YB := by simpa using hgb
    obtain ⟨as', bs', hfv, has, hbs⟩ := hf.of_func
    have hargs : VRs m (az.toList ++ vs ++ bs.toList) (as'.toList ++ args.toList.map a.eval ++ bs'.toList) := (has.append hvs).append hbs
    cases hcall : call g (az.toList ++ vs ++ bs.toList) L with
    | none => rw [hcall] at h0; cases h0
    | some r0 =>
      rw [hcall] at h0
      obtain ⟨r1, hreal, h0, hng⟩ := lbindR_real h0
      rcases hc.calls g _ L r0 r1 hgy hcall hreal with ⟨hcalls, hent⟩ | ⟨_, v0, L0, rfl, _, hext⟩
      · have hrun : (execOp a.eval o).run P w = .ok (.enter g ⟨as'.toList ++ args.toList.map a.eval ++ bs'.toList⟩) w := by
          have e : (as' ++ args.map a.eval ++ bs') = ⟨as'.toList ++ args.toList.map a.eval ++ bs'.toList⟩ := by apply Array.ext'; simp
          simp only [execOp, ho, resolve, hfv, Deferred.ofValue, Sem.run_bind, Sem.run_pure, Result.andThen_ok, invoke, e]
          exact hent _ w
        rw [hrun]
        refine ⟨(fun h => by cases h), (callsW (hcalls m w _ hr hg hargs)).mono fun e w' hE => ?_⟩
        cases r1 with
        | ret u L2 =>
          obtain ⟨m', v', rfl, h4, h5, h6⟩ := hE
          simp only [lbindR_ret] at h0
          have h7 := (typed_same (K := fun v => some (.ret v L2)) h0).1
          injection h7 with h7; injection h7 with h7 h8
          subst h7; subst h8
          exact go m' w' v' h4 h5 h6
        | pan u L2 => cases h0
        | gate b u L2 => cases hng
        | alt g b u L2 u' L3 => cases hng
      · obtain ⟨m', w', v', e1, h4, h5, h6⟩ := hext m w _ hr hargs
        have hrun : (execOp a.eval o).run P w = .ok (.value v') w' := by
          have e : (as' ++ args.map a.eval ++ bs') = ⟨as'.toList ++ args.toList.map a.eval ++ bs'.toList⟩ := by apply Array.ext'; simp
          simp only [execOp, ho, resolve, hfv, Deferred.ofValue, Sem.run_bind, Sem.run_pure, Result.andThen_ok, invoke, e]
          exact e1
        rw [hrun]
        simp only [lbindR_ret] at h0
        have h7 := (typed_same (K := fun v => some (.ret v L0)) h0).1
        injection h7 with h7; injection h7 with h7 h8
        subst h7; subst h8
        exact go m' w' v' h4 h5 h6
  · rw [Oper.semAt_eq _ _ _ (lop_no_defer h0)]
    obtain ⟨u, L2, h1, _, h3, _⟩ := lop_ok h0
    injection h1 with h1; injection h1 with h1 h2
    subst h1; subst h2
    have hd : Does P env L o u L2 := by
      rcases h3 with ⟨rfl, h3⟩ | ⟨_, h3⟩
      · exact h3.does
      · exact h3
    obtain ⟨m', w', v', h4, h5, h6, h7⟩ := hd m w a hr he
    rcases h4 with h4 | ⟨h4, rfl⟩
    · rw [h4]; exact go m' w' v' h5 h6 h7
    · rw [h4]; exact go m' w' _ h5 h6 h7
theorem Val.quiet {o : Oper} {env : Env} {L : LHeap} {v : Value} (h : Val P o env L v) (hk : kindOf P o.op ≠ .write) : Quiet P env L o v := by
  have h0 := h fun v L => some (.ret v L)
  obtain ⟨u, L2, h1, _, h3, _⟩ := lop_ok h0
  injection h1 with h1; injection h1 with h1 h2
  subst h1; subst h2
  rcases h3 with ⟨_, h3⟩ | ⟨h3, _⟩
  · exact h3
  · exact absurd h3 hk
structure Setting (P : Program) (call : Caller) (ops : Array Oper) (tr : List Rec) (env0 : Env) (L0 : LHeap) (e' : Env) (L' : LHeap) : Prop where
  trc : Trc P call ops.toList (befores ops.toList []) (twoMakes ops.toList (befores ops.toList [])) 0 ops.toList env0 L0 [] [] tr e' L'
  ord : ordered ops.toList (befores ops.toList []) = true
def envAt (tr : List Rec) (e' : Env) (j : Nat) : Env := match tr[j]? with | some rc => rc.env | none => e'
def heapAt (tr : List Rec) (L' : LHeap) (j : Nat) : LHeap := match tr[j]? with | some rc => rc.L | none => L'
abbrev bef (ops : Array Oper) (j i : Nat) : Bool := tbit ((befores ops.toList []).getD j 0) i
section
variable {tr : List Rec} {env0 e' : Env} {L0 L' : LHeap}
theorem Setting.len (h : Setting P call ops tr env0 L0 e' L') : tr.length = ops.size := by simpa using h.trc.length
theorem Setting.recd (h : Setting P call ops tr env0 L0 e' L') {j : Nat} {o : Oper} (ho : ops[j]? = some o) : ∃ rc, tr[j]? = some rc ∧ Loc P call ops.toList o rc ∧ envAt tr e' j = rc.env ∧ heapAt tr L' j = rc.L ∧
    envAt tr e' (j + 1) = put rc.env o.dst rc.v ∧ heapAt tr L' (j + 1) = rc.L' := by
  have hj := (Array.getElem?_eq_some_iff.1 ho).1
  have hlen := h.len
  obtain ⟨rc, hrc⟩ : ∃ rc, tr[j]? = some rc := ⟨tr[j], by simp⟩
  obtain ⟨h1, h2⟩ := h.trc.chain.2.2 j rc o hrc (by simpa using ho)
  refine ⟨rc, hrc, h1, by simp [envAt, hrc], by simp [heapAt, hrc], ?_⟩
  rcases h2 with ⟨rc', h3, h4, h5⟩ | ⟨h3, h4, h5⟩
  · simp [envAt, heapAt, h3, h4, h5]
  · simp [envAt, heapAt, h3, h4, h5]
theorem Setting.start (h : Setting P call ops tr env0 L0 e' L') : envAt tr e' 0 = env0 ∧ heapAt tr L' 0 = L0 := by
  cases htr : tr with
  | nil =>
    obtain ⟨h1, h2⟩ := h.trc.chain.1 htr
    simp [envAt, heapAt, h1, h2]
  | cons rc l =>
    obtain ⟨h1, h2⟩ := h.trc.chain.2.1 rc (by rw [htr]; rfl)
    simp [envAt, heapAt, h1, h2]
theorem Setting.final (h : Setting P call ops tr env0 L0 e' L') : envAt tr e' ops.size = e' ∧ heapAt tr L' ops.size = L' := by
  have : tr[ops.size]? = none := by rw [List.getElem?_eq_none]; rw [h.len]; exact Nat.le_refl _
  simp [envAt, heapAt, this]
/-- The heap does not turn where nothing is written. -/
theorem Setting.heap_same (h : Setting P call ops tr env0 L0 e' L') : ∀ (d p : Nat), p + d ≤ ops.size → (∀ q rc, p ≤ q → q < p + d → tr[q]? = some rc → rc.t ≠ 3) → heapAt tr L' (p + d) = heapAt tr L' p
  | 0, p, _, _ => rfl
  | d + 1, p, hle, hn => by
    have ih := h.heap_same d p (by omega) fun q rc h1 h2 => hn q rc h1 (by omega)
    have ho : ops[p + d]? = some ops[p + d] := by simp
    obtain ⟨rc, h1, h2, _, h4, _, h6⟩ := h.recd ho
    rw [show p + (d + 1) = p + d + 1 by omega, h6, ← ih, h4]
    have := hn (p + d) rc (by omega) (by omega) h1
    rcases h2 with h2 | h2 | h2 | h2
    · exact h2.2.2.2
    · exact h2.2.2.2.1
    · exact h2.2.2.2.1
    · exact absurd h2.1 this
/-- What a slot holds ahead of an operation: what was written last. -/
theorem Setting.env_look (h : Setting P call ops tr env0 L0 e' L') (t : Nat) : ∀ j, j ≤ ops.size →
    ((∃ (i : Nat) (o : Oper) (rc : Rec), i < j ∧ ops[i]? = some o ∧ tr[i]? = some rc ∧ o.dst = some t ∧ (∀ (k : Nat) (o' : Oper), i < k → k < j → ops[k]? = some o' → o'.dst ≠ some t) ∧ look (envAt tr e' j) t = some rc.v) ∨
     ((∀ (k : Nat) (o' : Oper), k < j → ops[k]? = some o' → o'.dst ≠ some t) ∧ look (envAt tr e' j) t = look env0 t))
  | 0, _ => .inr ⟨fun k _ hk => by omega, by rw [h.start.1]⟩
  | j + 1, hj => by
    have ho : ops[j]? = some ops[j] := by simp
    obtain ⟨rc, h1, _, h3, _, h5, _⟩ := h.recd ho
    by_cases hd : ops[j].dst = some t
    · refine .inl ⟨j, ops[j], rc, by omega, ho, h1, hd, fun k _ h6 h7 => by omega, ?_⟩
      rw [h5, hd]
      simp [put, look]
    · have hl : look (envAt tr e' (j + 1)) t = look (envAt tr e' j) t := by
        rw [h5, h3]
        cases hdd : ops[j].dst with
        | none => rfl
        | some d =>
          have : d.beq t = false := by
            cases hb : d.beq t with
            | false => rfl
            | true => exact absurd (by rw [hdd, Nat.eq_of_beq_eq_true hb]) hd
          simp [put, look, this]
      rcases h.env_look t j (by omega) with ⟨i, o, rci, g1, g2, g3, g4, g5, g6⟩ | ⟨g1, g2⟩
      · refine .inl ⟨i, o, rci, by omega, g2, g3, g4, fun k o' h6 h7 h8 => ?_, by rw [hl]; exact g6⟩
        rcases Nat.lt_or_ge k j with hk | hk
        · exact g5 k o' h6 hk h8
        · have : k = j := by omega
          subst this
          rw [ho] at h8; injection h8 with h8; subst h8
          exact hd
      · refine .inr ⟨fun k o' h6 h8 => ?_, by rw [hl]; exact g2⟩
        rcases Nat.lt_or_ge k j with hk | hk
        · exact g1 k o' hk h8
        · have : k = j := by omega
          subst this
          rw [ho] at h8; injection h8 with h8; subst h8
          exact hd
/-- Two operations that name one temporary that one of them writes are in order. -/
theorem Setting.order (h : Setting P call ops tr env0 L0 e' L') {i j : Nat} {x y : Oper} (hx : ops[i]? = some x) (hy : ops[j]? = some y) (hne : i ≠ j) {d : Nat} (hd : x.dst = some d)
    (hn : d ∈ tmpsOf ops.toList y ∨ y.dst = some d) : bef ops (max i j) (min i j) = true := by
  have hi := (Array.getElem?_eq_some_iff.1 hx).1
  have hj := (Array.getElem?_eq_some_iff.1 hy).1
  have h0 := h.ord
  unfold ordered at h0
  rw [Bool.and_eq_true] at h0
  have h1 := List.all_eq_true.1 h0.2 j (by simpa using hj)
  have h2 := List.all_eq_true.1 h1 i (by simpa using hi)
  have hb : Nat.beq i j = false := by
    cases hb : Nat.beq i j with
    | false => rfl
    | true => exact absurd (Nat.eq_of_beq_eq_true hb) hne
  have hx' : ops.toList[i]? = some x := by simpa using hx
  have hy' : ops.toList[j]? = some y := by simpa using hy
  simp only [hb, hif_false, cond_false, hx', hy', hd] at h2
  cases hyd : y.dst with
  | none =>
    rw [hyd] at h2 hn
    have h3 : (tmpsOf ops.toList y).any (Nat.beq d) = true := by
      rcases hn with hn | hn
      · exact List.any_eq_true.2 ⟨d, hn, Nat.beq_refl d⟩
      · cases hn
    simp only [h3, Bool.true_or, hif_true, cond_true] at h2
    exact h2
  | some d' =>
    rw [hyd] at h2 hn
    have h3 : ((tmpsOf ops.toList y).any (Nat.beq d) || Nat.beq d d') = true := by
      rw [Bool.or_eq_true]
      rcases hn with hn | hn
      · exact .inl (List.any_eq_true.2 ⟨d, hn, Nat.beq_refl d⟩)
      · injection hn with hn; subst hn; exact .inr (Nat.beq_refl d')
    simp only [h3, hif_true, cond_true] at h2
    exact h2
theorem Setting.back (h : Setting P call ops tr env0 L0 e' L') {j : Nat} {o : Oper} (ho : ops[j]? = some o) {e : Edge} (he : e ∈ o.after) (hb : Region.binds .any e = true) : e.on < j := by
  have hj := (Array.getElem?_eq_some_iff.1 ho).1
  have h0 := h.ord
  unfold ordered at h0
  rw [Bool.and_eq_true] at h0
  have h1 := List.all_eq_true.1 h0.1 j (by simpa using hj)
  have ho' : ops.toList[j]? = some o := by simpa using ho
  simp only [ho'] at h1
  have h2 := List.all_eq_true.1 h1 e (by simpa using he)
  rw [hb] at h2
  simpa using h2
/-- How far an order has come. -/
structure Inv (P : Program) (ops : Array Oper) (tr : List Rec) (env0 : Env) (L0 : LHeap) (L' : LHeap) (m0 : RMap) (w0 : World) (ds : List Deferred) (N : Nat) (listed : Array Bool) (a : Act) (w : World) : Prop where
  sz : listed.size = ops.size
  down : ∀ j i, listed[j]? = some true → bef ops j i = true → listed[i]? = some true
  state : ∃ m p, p ≤ ops.size ∧ (∀ (q : Nat) (rc : Rec), q < p → tr[q]? = some rc → rc.t = 3 → listed[q]? = some true) ∧ (∀ (q : Nat) (rc : Rec), p ≤ q → tr[q]? = some rc → rc.t = 3 → listed[q]? = some false) ∧
    Rep P m (heapAt tr L' p) w ∧ Tr m0 L0 w0 m (heapAt tr L' p) w ∧
    (∀ (t i : Nat) (rc : Rec) (o : Oper), tr[i]? = some rc → ops[i]? = some o → listed[i]? = some true → o.dst = some t → (∀ (k : Nat) (o' : Oper), i < k → ops[k]? = some o' → listed[k]? = some true → o'.dst ≠ some t) → ∃ v', a.tmps[t]? = some v' ∧ VR m rc.v v') ∧
    (∀ t : Nat, (∀ (k : Nat) (o' : Oper), ops[k]? = some o' → listed[k]? = some true → o'.dst ≠ some t) → ∀ v, look env0 t = some v → ∃ v', a.tmps[t]? = some v' ∧ VR m v v')
  defers : a.defers = ds
  size : a.tmps.size = N
theorem listed_set {listed : Array Bool} {j k : Nat} (hj : j < listed.size) : (listed.setIfInBounds j true)[k]? = some true ↔ (k = j ∨ listed[k]? = some true) := by
  rw [Array.getElem?_setIfInBounds]
  by_cases h : j = k
  · subst h; simp [hj]
  · rw [if_neg h]
    exact ⟨.inr, fun h' => h'.resolve_left fun e => h e.symm⟩
theorem listed_set_false {listed : Array Bool} {j k : Nat} (hj : j < listed.size) : (listed.setIfInBounds j true)[k]? = some false ↔ (k ≠ j ∧ listed[k]? = some false) := by
  rw [Array.getElem?_setIfInBounds]
  by_cases h : j = k
  · subst h; simp [hj]
  · rw [if_neg h]
    exact ⟨fun h' => ⟨fun e => h e.symm, h'⟩, fun h' => h'.2⟩
theorem listed_cases {listed : Array Bool} {k : Nat} (hk : k < listed.size) : listed[k]? = some true ∨ listed[k]? = some false := by
  rw [Array.getElem?_eq_getElem hk]
  cases listed[k] <;> simp
end
end
end Go.Rlm
end

section
namespace Go.Rlm
section
variable {P : Program} {o : Oper} {L L1 : LHeap} {v : Value} {env : Env}
theorem make_facts {t : TypeId} {x y : Operand} (ho : o.op = .makeSlice t x y) (h : ∀ K2 : Value → LHeap → R, lop P env L o K2 = K2 v L1) :
    ∃ (cs : List Value) (cc : Array Value) (e : TypeId) (n c : Nat), v = .slice (some ⟨L.length, 0, none⟩) n c ∧ L1 = L ++ [.cells cs e false 0] ∧ c < OPEN ∧ (∀ m, VRs m cs cc.toList) ∧ (∀ u ∈ cs, one u = true) ∧
      ∀ (m : RMap) (w : World) (a : Act), ER m env a.tmps → (execOp a.eval o).run P w = .ok (.value (.slice (some ⟨w.heap.size, 0, none⟩) n c)) { w with heap := w.heap.push (.cells cc e) } := by
  have h := h fun v L => some (.ret v L)
  obtain ⟨dst, op, ty, pos, after, guard⟩ := o
  simp only at ho
  subst ho
  simp only [lop, ev_eq, obind_iff] at h
  obtain ⟨v', h1, u, h2, h3⟩ := h
  split at h3
  case h_2 => cases h3
  rename_i e kn n kc c hu
  split at h3
  case h_2 => cases h3
  rename_i i hi
  rw [obind_iff] at h3
  obtain ⟨z, hz, h3⟩ := h3
  simp only [when_iff] at h3
  obtain ⟨g1, g2, gr, h3⟩ := h3
  injection h3 with h3; injection h3 with h3 h4
  obtain ⟨zv, i', hi', hz1, hz2⟩ := zeroOf_zero hz
  rw [hi] at hi'; injection hi' with hi'; subst hi'
  obtain ⟨_, _, _, hfl, hon⟩ := zeroOf_ok hz
  have e1 := Nat.eq_of_beq_eq_true g1
  obtain ⟨g3, g4, g5, g6⟩ := room_iff.1 gr
  have g2 : 0 < z.length := by simpa using g2
  have hcells : madeCells zv.cells (c.toNat * i.size) = ⟨(List.replicate c.toNat z).flatten⟩ := by
    rw [← e1]; exact zero_mod hz2 g2 c.toNat
  have hmem : ∀ v ∈ (List.replicate c.toNat z).flatten, v ∈ z := fun v hv => by
    obtain ⟨l, hl, hv⟩ := List.mem_flatten.1 hv
    rwa [List.eq_of_mem_replicate hl] at hv
  refine ⟨(List.replicate c.toNat z).flatten, madeCells zv.cells (c.toNat * i.size), e, n.toNat, c.toNat, h3.symm, h4.symm, by unfold OPEN; omega, fun m => by rw [hcells]; exact VRs.flat fun v hv => hfl v (hmem v hv), fun v hv => hon v (hmem v hv), fun m w a he => ?_⟩
  have hrun := run_make (P := P) w t e i zv hu hi hz1 kn kc n c g3 g4 (by rw [Int.mul_comm]; omega) (by omega)
  have hb := VR.of_int (he.eval h1)
  have hc := VR.of_int (he.eval h2)
  simp only [execOp, hb, hc, Sem.run_bind, hrun, Result.andThen_ok, Sem.run_pure]
  rfl
end
section
variable {P : Program} {m : RMap} {L : LHeap} {w w' : World}
theorem Rep.grow (h : Rep P m L w) (hw : ∀ b, b < w.heap.size → w'.heap[b]? = w.heap[b]?) : Rep P m L w' := by
  refine ⟨h.fresh, fun r cs e ro sp hr => ?_, h.sep, h.loops.keep (.refl m) (fun _ _ _ h => h) fun b lp _ hb => by rw [hw b (Array.getElem?_eq_some_iff.1 hb).1]; exact hb⟩
  obtain ⟨i, h1, h2⟩ := h.row r cs e ro sp hr
  refine ⟨i, h1, ⟨?_, h2.ones⟩⟩
  obtain ⟨cp, e', fz, h3, h4⟩ := h2.there
  exact ⟨cp, e', fz, by rw [hw i.blk (Array.getElem?_eq_some_iff.1 h3).1]; exact h3, h4⟩
theorem Rep.claim (h : Rep P m L w) {k : Nat} {cs : List Value} {cc : Array Value} {e : TypeId} (hw : w.heap[k]? = some (.cells cc e)) (hv : VRs m cs cc.toList) (ho : ∀ v ∈ cs, one v = true)
    (hfree : ∀ (r : Nat) (cs' : List Value) (e' : TypeId) (ro : Bool) (sp : Nat) (i : Info), L[r]? = some (.cells cs' e' ro sp) → m r = some i → i.blk ≠ k) :
    Rep P (ins m L.length ⟨k, 0, 0, 0⟩) (L ++ [.cells cs e false 0]) w := by
  have hext := MExt.ins (m := m) (r := L.length) ⟨k, 0, 0, 0⟩ (h.fresh _ (Nat.le_refl _))
  have hins : ∀ r i, r < L.length → ins m L.length ⟨k, 0, 0, 0⟩ r = some i → m r = some i := fun r i hr hm => by
    unfold Rlm.ins at hm
    rw [if_neg (by omega)] at hm
    exact hm
  have hinsL : ∀ i, ins m L.length ⟨k, 0, 0, 0⟩ L.length = some i → i = ⟨k, 0, 0, 0⟩ := fun i hm => by
    unfold Rlm.ins at hm
    rw [if_pos rfl] at hm
    injection hm with hm
    exact hm.symm
  have hget : ∀ r b, (L ++ [LBlk.cells cs e false 0])[r]? = some b → (r < L.length ∧ L[r]? = some b) ∨ (r = L.length ∧ b = .cells cs e false 0) := fun r b hr => by
    rcases Nat.lt_trichotomy r L.length with h1 | h1 | h1
    · rw [List.getElem?_append_left h1] at hr; exact .inl ⟨h1, hr⟩
    · subst h1; rw [List.getElem?_append_right (Nat.le_refl _)] at hr; simp at hr; exact .inr ⟨rfl, hr.symm⟩
    · rw [List.getElem?_eq_none (by simp; omega)] at hr; cases hr
  have hloop : ∀ (r : Nat) (b : LBlk), aside b = true → (L ++ [LBlk.cells cs e false 0])[r]? = some b → L[r]? = some b := fun r b hab hq => by
    rcases hget _ _ hq with ⟨_, h⟩ | ⟨_, h⟩
    · exact h
    · subst h; cases hab
  refine ⟨fun r hr => ?_, fun r ds e2 ro2 sp2 hr2 => ?_, fun r r' j j' h6 h7 h8 h9 h10 => ?_, h.loops.keep hext hloop fun b lp _ hb => hb⟩
  · unfold Rlm.ins
    simp at hr
    rw [if_neg (by omega)]
    exact h.fresh r (by omega)
  · rcases hget _ _ hr2 with ⟨h1, h2⟩ | ⟨h1, h2⟩
    · obtain ⟨j, h3, h4⟩ := h.row _ _ _ _ _ h2
      refine ⟨j, hext _ _ h3, ⟨?_, h4.ones⟩⟩
      obtain ⟨cp2, e3, fz2, h8, h9, h10⟩ := h4.there
      refine ⟨cp2, e3, fz2, h8, fun q v hk => ?_, h10⟩
      obtain ⟨v', h11, h12⟩ := h9 q v hk
      exact ⟨v', h11, h12.mono hext⟩
    · subst h1
      injection h2 with e1 e2 e3 e4
      subst e1; subst e2; subst e3; subst e4
      refine ⟨_, by unfold Rlm.ins; rw [if_pos rfl], ⟨⟨_, _, _, hw, fun j v hj => ?_, fun _ => ⟨rfl, rfl, fun o _ => by simp⟩, fun hne => absurd rfl hne⟩, ho⟩⟩
      obtain ⟨v', h3, h4⟩ := hv.get hj
      exact ⟨v', by simpa using h3, h4.mono hext⟩
  · obtain ⟨c1, c2, c3, c4⟩ := h6
    obtain ⟨d1, d2, d3, d4, d5⟩ := h7
    rcases hget _ _ c4 with ⟨g1, g2⟩ | ⟨g1, g2⟩ <;> rcases hget _ _ d5 with ⟨g3, g4⟩ | ⟨g3, g4⟩
    · exact h.sep r r' j j' ⟨_, _, _, g2⟩ ⟨_, _, _, _, g4⟩ h8 (hins _ _ g1 h9) (hins _ _ g3 h10)
    · subst g3
      have := hfree _ _ _ _ _ _ g2 (hins _ _ g1 h9)
      rw [hinsL _ h10]
      exact this
    · subst g1
      have := hfree _ _ _ _ _ _ g4 (hins _ _ g3 h10)
      rw [hinsL _ h9]
      exact fun hh => this hh.symm
    · omega
/-- Made the other way round. -/
theorem Rep.pair (h : Rep P m L w) {cs0 cs1 : List Value} {cc0 cc1 : Array Value} {e0 e1 : TypeId} (hv0 : ∀ m, VRs m cs0 cc0.toList) (hv1 : ∀ m, VRs m cs1 cc1.toList) (ho0 : ∀ v ∈ cs0, one v = true) (ho1 : ∀ v ∈ cs1, one v = true)
    (hw : w'.heap = (w.heap.push (.cells cc1 e1)).push (.cells cc0 e0)) (hos : w'.os = w.os) (ht : w'.tape = w.tape) (hout : w'.output = w.output) :
    ∃ m', m' L.length = some ⟨w.heap.size + 1, 0, 0, 0⟩ ∧ m' (L.length + 1) = some ⟨w.heap.size, 0, 0, 0⟩ ∧ Rep P m' (L ++ [.cells cs0 e0 false 0] ++ [.cells cs1 e1 false 0]) w' ∧ Tr m L w m' (L ++ [.cells cs0 e0 false 0] ++ [.cells cs1 e1 false 0]) w' := by
  have hsz : w'.heap.size = w.heap.size + 2 := by rw [hw]; simp
  have hold : ∀ b, b < w.heap.size → w'.heap[b]? = w.heap[b]? := fun b hb => by
    rw [hw, Array.getElem?_push, if_neg (by simp; omega), Array.getElem?_push, if_neg (by omega)]
  have g0 : w'.heap[w.heap.size + 1]? = some (.cells cc0 e0) := by rw [hw, Array.getElem?_push, if_pos (by simp)]
  have g1 : w'.heap[w.heap.size]? = some (.cells cc1 e1) := by rw [hw, Array.getElem?_push, if_neg (by simp), Array.getElem?_push, if_pos rfl]
  have hblk : ∀ (r : Nat) (cs' : List Value) (e' : TypeId) (ro : Bool) (sp : Nat) (i : Info), L[r]? = some (.cells cs' e' ro sp) → m r = some i → i.blk < w.heap.size := fun r cs' e' ro sp i hr hm => by
    obtain ⟨j, h1, h2⟩ := h.row _ _ _ _ _ hr
    rw [hm] at h1; injection h1 with h1; subst h1
    obtain ⟨_, _, _, h3, _⟩ := h2.there
    exact (Array.getElem?_eq_some_iff.1 h3).1
  have r1 := (h.grow hold).claim (cs := cs0) g0 (hv0 m) ho0 fun r cs' e' ro sp i hr hm => by have := hblk r cs' e' ro sp i hr hm; omega
  have hl : (L ++ [LBlk.cells cs0 e0 false 0]).length = L.length + 1 := by simp
  have r2 := r1.claim (cs := cs1) g1 (hv1 _) ho1 fun r cs' e' ro sp i hr hm => by
    rcases Nat.lt_trichotomy r L.length with h1 | h1 | h1
    · rw [List.getElem?_append_left h1] at hr
      unfold ins at hm
      rw [if_neg (by omega)] at hm
      have := hblk r cs' e' ro sp i hr hm
      omega
    · subst h1
      unfold ins at hm
      rw [if_pos rfl] at hm
      injection hm with hm
      subst hm
      simp only
      omega
    · rw [List.getElem?_eq_none (by simp; omega)] at hr; cases hr
  rw [hl] at r2
  have e0' : MExt m (ins m L.length ⟨w.heap.size + 1, 0, 0, 0⟩) := .ins _ (h.fresh _ (Nat.le_refl _))
  have e1' : MExt (ins m L.length ⟨w.heap.size + 1, 0, 0, 0⟩) (ins (ins m L.length ⟨w.heap.size + 1, 0, 0, 0⟩) (L.length + 1) ⟨w.heap.size, 0, 0, 0⟩) := .ins _ (by unfold ins; rw [if_neg (by omega)]; exact h.fresh _ (by omega))
  refine ⟨_, by unfold ins; rw [if_neg (by omega), if_pos rfl], by unfold ins; rw [if_pos rfl], r2, .of h (e0'.trans e1') (by simp) (by omega) hos ht hout (fun r i hr hm => ?_) (fun b hb _ => hold b hb) fun r b hab hr => ?_⟩
  · obtain ⟨c2, c3, c4, c5⟩ := hr
    rcases Nat.lt_or_ge r L.length with h1 | h1
    · unfold ins at hm
      rw [if_neg (by omega), if_neg (by omega)] at hm
      rw [List.append_assoc, List.getElem?_append_left h1] at c5
      exact .inl ⟨r, i, ⟨_, _, _, c5⟩, hm, rfl⟩
    · unfold ins at hm
      split at hm
      · injection hm with hm; subst hm; exact .inr (Nat.le_refl _)
      · split at hm
        · injection hm with hm; subst hm; exact .inr (by simp)
        · rw [h.fresh r h1] at hm; cases hm
  · rcases Nat.lt_or_ge r L.length with h1 | h1
    · rw [List.append_assoc, List.getElem?_append_left h1] at hr; exact hr
    · rw [List.append_assoc, List.getElem?_append_right h1] at hr
      match hq : r - L.length with
      | 0 => rw [hq] at hr; simp at hr; subst hr; cases hab
      | 1 => rw [hq] at hr; simp at hr; subst hr; cases hab
      | q + 2 => rw [hq] at hr; simp at hr
end
end Go.Rlm
end

section
namespace Go.Rlm
section
variable {P : Program} {r : LR} {call : Caller} {ops : Array Oper} {tr : List Rec} {env0 e' : Env} {L0 L' : LHeap} {m0 : RMap} {w0 : World} {ds : List Deferred} {N : Nat}
theorem getD_true {listed : Array Bool} {j : Nat} (hj : j < listed.size) (h : listed.getD j true = false) : listed[j]? = some false := by
  rw [Array.getElem?_eq_getElem hj]
  simp [Array.getD, hj] at h
  rw [h]
theorem getD_false {listed : Array Bool} {j : Nat} (h : listed.getD j false = true) : listed[j]? = some true := by
  rcases Nat.lt_or_ge j listed.size with hj | hj
  · rw [Array.getElem?_eq_getElem hj]
    simp [Array.getD, hj] at h
    rw [h]
  · simp [Array.getD, Nat.not_lt.2 hj] at h
/-- What an operation that may come up sees. -/
theorem Inv.sees (hS : Setting P call ops tr env0 L0 e' L') {listed : Array Bool} {a : Act} {j : Nat} {o : Oper} {rc : Rec} (ho : ops[j]? = some o) (hrc : tr[j]? = some rc) (hrce : envAt tr e' j = rc.env)
    (hj : listed[j]? = some false) (hdeps : ∀ i, bef ops j i = true → listed[i]? = some true) (hdown : ∀ j i, listed[j]? = some true → bef ops j i = true → listed[i]? = some true) {m : RMap}
    (v1 : ∀ (t i : Nat) (rc : Rec) (o : Oper), tr[i]? = some rc → ops[i]? = some o → listed[i]? = some true → o.dst = some t → (∀ (k : Nat) (o' : Oper), i < k → ops[k]? = some o' → listed[k]? = some true → o'.dst ≠ some t) → ∃ v', a.tmps[t]? = some v' ∧ VR m rc.v v')
    (v2 : ∀ t : Nat, (∀ (k : Nat) (o' : Oper), ops[k]? = some o' → listed[k]? = some true → o'.dst ≠ some t) → ∀ v, look env0 t = some v → ∃ v', a.tmps[t]? = some v' ∧ VR m v v') :
    ER m (res rc.env (tmpsOf ops.toList o)) a.tmps := by
  have hjs := (Array.getElem?_eq_some_iff.1 ho).1
  have notLater : ∀ (k : Nat) (o' : Oper) (t : Nat), t ∈ tmpsOf ops.toList o → ops[k]? = some o' → o'.dst = some t → listed[k]? = some true → k < j := fun k o' t ht hk hd hl => by
    rcases Nat.lt_trichotomy k j with h | h | h
    · exact h
    · subst h; rw [hj] at hl; cases hl
    · have := hS.order hk ho (by omega) hd (.inl ht)
      rw [Nat.max_eq_left (by omega), Nat.min_eq_right (by omega)] at this
      have := hdown k j hl this
      rw [hj] at this; cases this
  intro t v hv
  rw [look_res] at hv
  split at hv
  case isFalse => cases hv
  rename_i ht
  rw [← hrce] at hv
  rcases hS.env_look t j (by omega) with ⟨i, oi, rci, g1, g2, g3, g4, g5, g6⟩ | ⟨g1, g2⟩
  · rw [g6] at hv
    injection hv with hv
    subst hv
    have hb := hS.order g2 ho (by omega) g4 (.inl ht)
    rw [Nat.max_eq_right (by omega), Nat.min_eq_left (by omega)] at hb
    refine v1 t i rci oi g3 g2 (hdeps i hb) g4 fun k o' h1 h2 h3 h4 => ?_
    exact g5 k o' h1 (notLater k o' t ht h2 h4 h3) h2 h4
  · rw [g2] at hv
    refine v2 t (fun k o' h2 h3 h4 => ?_) v hv
    exact g1 k o' (notLater k o' t ht h2 h4 h3) h2 h4
/-- One more operation. -/
theorem Inv.step (hS : Setting P call ops tr env0 L0 e' L') {listed : Array Bool} {a : Act} {w : World} (hI : Inv P ops tr env0 L0 L' m0 w0 ds N listed a w) {j : Nat} {o : Oper} {rc : Rec} (ho : ops[j]? = some o) (hrc : tr[j]? = some rc)
    (hj : listed[j]? = some false) (hdeps : ∀ i, bef ops j i = true → listed[i]? = some true) (hdst : ∀ d, o.dst = some d → d < N)
    {m m' : RMap} {p p' : Nat} {w' : World} {v' : Value} (hp' : p' ≤ ops.size) (hext : MExt m m')
    (hw1 : ∀ (q : Nat) (rc : Rec), q < p' → tr[q]? = some rc → rc.t = 3 → (q = j ∨ listed[q]? = some true)) (hw2 : ∀ (q : Nat) (rc : Rec), p' ≤ q → tr[q]? = some rc → rc.t = 3 → q ≠ j ∧ listed[q]? = some false)
    (hr : Rep P m' (heapAt tr L' p') w') (ht : Tr m0 L0 w0 m' (heapAt tr L' p') w') (hv : VR m' rc.v v')
    (v1 : ∀ (t i : Nat) (rc : Rec) (o : Oper), tr[i]? = some rc → ops[i]? = some o → listed[i]? = some true → o.dst = some t → (∀ (k : Nat) (o' : Oper), i < k → ops[k]? = some o' → listed[k]? = some true → o'.dst ≠ some t) → ∃ v', a.tmps[t]? = some v' ∧ VR m rc.v v')
    (v2 : ∀ t : Nat, (∀ (k : Nat) (o' : Oper), ops[k]? = some o' → listed[k]? = some true → o'.dst ≠ some t) → ∀ v, look env0 t = some v → ∃ v', a.tmps[t]? = some v' ∧ VR m v v') :
    Inv P ops tr env0 L0 L' m0 w0 ds N (listed.setIfInBounds j true) (a.put o.dst v') w' := by
  have hjs := (Array.getElem?_eq_some_iff.1 ho).1
  have hjl : j < listed.size := by rw [hI.sz]; exact hjs
  have notLater : ∀ (k : Nat) (o' : Oper) (t : Nat), o.dst = some t → ops[k]? = some o' → o'.dst = some t → listed[k]? = some true → k < j := fun k o' t hd0 hk hd hl => by
    rcases Nat.lt_trichotomy k j with h | h | h
    · exact h
    · subst h; rw [hj] at hl; cases hl
    · have := hS.order hk ho (by omega) hd (.inr hd0)
      rw [Nat.max_eq_left (by omega), Nat.min_eq_right (by omega)] at this
      have := hI.down k j hl this
      rw [hj] at this; cases this
  have tmpOther : ∀ t, o.dst ≠ some t → (a.put o.dst v').tmps[t]? = a.tmps[t]? := fun t hne => by
    cases hd : o.dst with
    | none => rfl
    | some d =>
      have : d ≠ t := fun e => hne (by rw [hd, e])
      simp [Act.put, Array.getElem?_setIfInBounds_ne this]
  have tmpSelf : ∀ t, o.dst = some t → (a.put o.dst v').tmps[t]? = some v' := fun t hd => by
    have := hdst t hd
    rw [hd]
    simp only [Act.put]
    rw [Array.getElem?_setIfInBounds, if_pos rfl, if_pos (by rw [hI.size]; exact this)]
  refine ⟨by simpa using hI.sz, fun k i hk hb => ?_, ⟨m', p', hp', fun q rq h1 h2 h3 => ?_, fun q rq h1 h2 h3 => ?_, hr, ht, fun t i rci oi h1 h2 h3 h4 h5 => ?_, fun t h1 v hv2 => ?_⟩, by rw [put_defers]; exact hI.defers, by rw [put_size]; exact hI.size⟩
  · rw [listed_set hjl] at hk ⊢
    rcases hk with rfl | hk
    · exact .inr (hdeps i hb)
    · exact .inr (hI.down k i hk hb)
  · rw [listed_set hjl]; exact hw1 q rq h1 h2 h3
  · rw [listed_set_false hjl]; exact hw2 q rq h1 h2 h3
  · rw [listed_set hjl] at h3
    by_cases hd : o.dst = some t
    · rw [tmpSelf t hd]
      rcases h3 with rfl | h3
      · rw [hrc] at h1; injection h1 with h1; subst h1
        exact ⟨v', rfl, hv⟩
      · have := notLater i oi t hd h2 h4 h3
        exact absurd hd (h5 j o this ho ((listed_set hjl).2 (.inl rfl)))
    · rw [tmpOther t hd]
      rcases h3 with rfl | h3
      · rw [ho] at h2; injection h2 with h2; subst h2
        exact absurd h4 hd
      · obtain ⟨x, g1, g2⟩ := v1 t i rci oi h1 h2 h3 h4 fun k o' k1 k2 k3 => h5 k o' k1 k2 ((listed_set hjl).2 (.inr k3))
        exact ⟨x, g1, g2.mono hext⟩
  · have hd : o.dst ≠ some t := h1 j o ho ((listed_set hjl).2 (.inl rfl))
    rw [tmpOther t hd]
    obtain ⟨x, g1, g2⟩ := v2 t (fun k o' k2 k3 => h1 k o' k2 ((listed_set hjl).2 (.inr k3))) v hv2
    exact ⟨x, g1, g2.mono hext⟩
/-- In whatever heap it comes up, a reading operation yields what it yielded in the text's order. -/
theorem Inv.reads (hS : Setting P call ops tr env0 L0 e' L') {listed : Array Bool} {j : Nat} {o : Oper} {rc : Rec} (ho : ops[j]? = some o) (hrc : tr[j]? = some rc) (hj : listed[j]? = some false)
    (hdeps : ∀ i, bef ops j i = true → listed[i]? = some true) (hdown : ∀ j i, listed[j]? = some true → bef ops j i = true → listed[i]? = some true) {p : Nat} (hp : p ≤ ops.size)
    (w1 : ∀ (q : Nat) (rc : Rec), q < p → tr[q]? = some rc → rc.t = 3 → listed[q]? = some true) (w2 : ∀ (q : Nat) (rc : Rec), p ≤ q → tr[q]? = some rc → rc.t = 3 → listed[q]? = some false)
    (h2 : rc.t = 2) (hv : Val P o rc.env rc.L rc.v) (hL : rc.L' = rc.L) (h4 : heapAt tr L' j = rc.L) (h6 : heapAt tr L' (j + 1) = rc.L') : Val P o rc.env (heapAt tr L' p) rc.v := by
  have hjs := (Array.getElem?_eq_some_iff.1 ho).1
  have ho' : ops.toList[j]? = some o := by simpa using ho
  have oper : ∀ q rq, tr[q]? = some rq → ∃ oq, ops[q]? = some oq := fun q rq hq => by
    have := (List.getElem?_eq_some_iff.1 hq).1
    rw [hS.len] at this
    exact ⟨ops[q], Array.getElem?_eq_getElem this⟩
  rcases Nat.lt_or_ge j p with hlt | hge
  · -- writes between j and p have come up
    by_cases hex : ∃ q rq, j < q ∧ q < p ∧ tr[q]? = some rq ∧ rq.t = 3
    · -- the last one
      have : ∃ q rq, j < q ∧ q < p ∧ tr[q]? = some rq ∧ rq.t = 3 ∧ ∀ k rk, q < k → k < p → tr[k]? = some rk → rk.t ≠ 3 := by
        clear hv
        induction p with
        | zero => omega
        | succ p ih =>
          obtain ⟨q, rq, g1, g2, g3, g4⟩ := hex
          by_cases hpp : ∃ rp, tr[p]? = some rp ∧ rp.t = 3 ∧ j < p
          · obtain ⟨rp, k1, k2, k3⟩ := hpp
            exact ⟨p, rp, k3, by omega, k1, k2, fun k rk h1 h2 => by omega⟩
          · have hqp : q < p := by
              rcases Nat.lt_or_ge q p with h | h
              · exact h
              · have : q = p := by omega
                subst this
                exact absurd ⟨rq, g3, g4, g1⟩ hpp
            obtain ⟨q', rq', k1, k2, k3, k4, k5⟩ := ih (by omega) (fun q rc h1 h2 h3 => w1 q rc (by omega) h2 h3) (fun q rc h1 h2 h3 => by
              rcases Nat.lt_or_ge p q with h | h
              · exact w2 q rc (by omega) h2 h3
              · have : q = p := by omega
                subst this
                exact absurd ⟨rc, h2, h3, by omega⟩ hpp) (by omega) ⟨q, rq, g1, hqp, g3, g4⟩
            refine ⟨q', rq', k1, by omega, k3, k4, fun k rk h1 h2 h3 h4 => ?_⟩
            rcases Nat.lt_or_ge k p with h | h
            · exact k5 k rk h1 h h3 h4
            · have : k = p := by omega
              subst this
              exact hpp ⟨rk, h3, h4, by omega⟩
      obtain ⟨q, rq, g1, g2, g3, g4, g5⟩ := this
      obtain ⟨oq, hoq⟩ := oper q rq g3
      obtain ⟨rq', k1, _, _, _, _, k6⟩ := hS.recd hoq
      rw [g3] at k1; injection k1 with k1; subst k1
      have hb : tbit ((befores ops.toList []).getD q 0) j = false := by
        cases hb : tbit ((befores ops.toList []).getD q 0) j with
        | false => rfl
        | true =>
          have := hdown q j (w1 q rq g2 g3 g4) hb
          rw [hj] at this; cases this
      have hval := (hS.trc.pairs j q rc rq o oq g1 hrc g3 ho' (by simpa using hoq)).2.2 h2 g4 (by simpa using hb)
      have hsame := hS.heap_same (p - (q + 1)) (q + 1) (by omega) fun k rk h1 h2 h3 => g5 k rk (by omega) (by omega) h3
      rw [show q + 1 + (p - (q + 1)) = p by omega, k6] at hsame
      rw [hsame]; exact hval
    · have hsame := hS.heap_same (p - (j + 1)) (j + 1) (by omega) fun k rk h1 h2 h3 h4 => hex ⟨k, rk, by omega, by omega, h3, h4⟩
      rw [show j + 1 + (p - (j + 1)) = p by omega, h6, hL] at hsame
      rw [hsame]; exact hv
  · -- writes between p and j have not come up
    by_cases hex : ∃ q rq, p ≤ q ∧ q < j ∧ tr[q]? = some rq ∧ rq.t = 3
    · have : ∃ q rq, p ≤ q ∧ q < j ∧ tr[q]? = some rq ∧ rq.t = 3 ∧ ∀ k rk, p ≤ k → k < q → tr[k]? = some rk → rk.t ≠ 3 := by
        obtain ⟨q, hq⟩ := hex
        induction q using Nat.strongRecOn with
        | _ q ih =>
          obtain ⟨rq, g1, g2, g3, g4⟩ := hq
          by_cases hs : ∃ k, k < q ∧ ∃ rk, p ≤ k ∧ k < j ∧ tr[k]? = some rk ∧ rk.t = 3
          · obtain ⟨k, hk, hk2⟩ := hs
            exact ih k hk hk2
          · exact ⟨q, rq, g1, g2, g3, g4, fun k rk h1 h2 h3 h4 => hs ⟨k, h2, rk, h1, by omega, h3, h4⟩⟩
      obtain ⟨q, rq, g1, g2, g3, g4, g5⟩ := this
      obtain ⟨oq, hoq⟩ := oper q rq g3
      obtain ⟨rq', k1, _, _, k4, _, _⟩ := hS.recd hoq
      rw [g3] at k1; injection k1 with k1; subst k1
      have hb : tbit ((befores ops.toList []).getD j 0) q = false := by
        cases hb : tbit ((befores ops.toList []).getD j 0) q with
        | false => rfl
        | true =>
          have h8 := hdeps q hb
          rw [w2 q rq g1 g3 g4] at h8; cases h8
      have hval := (hS.trc.pairs q j rq rc oq o g2 g3 hrc (by simpa using hoq) ho').2.1 g4 h2 (by simpa using hb)
      have hsame := hS.heap_same (q - p) p (by omega) fun k rk h1 h2 h3 => g5 k rk h1 (by omega) h3
      rw [show p + (q - p) = q by omega, k4] at hsame
      rw [← hsame]; exact hval
    · have hsame := hS.heap_same (j - p) p (by omega) fun k rk h1 h2 h3 h4 => hex ⟨k, rk, h1, by omega, h3, h4⟩
      rw [show p + (j - p) = j by omega, h4] at hsame
      rw [← hsame]; exact hv
/-- What is known of the first two. -/
theorem twoMakes_facts {ops : Array Oper} {o : Oper} (ho : ops.toList[1]? = some o) (h : twoMakes ops.toList (befores ops.toList []) = true) :
    ∃ (o0 : Oper) (rest : List Oper) (d0 d1 : Nat) (t0 : TypeId) (x0 y0 : Value) (t1 : TypeId) (x1 y1 : Value), ops.toList = o0 :: o :: rest ∧ o0.guard = none ∧ o.guard = none ∧ o0.op = .makeSlice t0 (.const x0) (.const y0) ∧ o.op = .makeSlice t1 (.const x1) (.const y1) ∧
      o0.dst = some d0 ∧ o.dst = some d1 ∧ d0 ≠ d1 ∧ (befores ops.toList []).getD 0 0 = 0 ∧ (befores ops.toList []).getD 1 0 = 0 ∧ ∀ q, q < ops.size → 1 < q → bef ops q 0 = true := by
  have mk : ∀ {o : Oper}, isMake o = true → o.guard = none ∧ ∃ t x y, o.op = .makeSlice t (.const x) (.const y) := fun {o} h => by
    unfold isMake at h
    rw [Bool.and_eq_true] at h
    refine ⟨by simpa using h.1, ?_⟩
    have h2 := h.2
    split at h2
    · rename_i t x y hop; exact ⟨t, x, y, hop⟩
    · cases h2
  unfold twoMakes at h
  split at h
  case h_2 => cases h
  rename_i o0 o1 rest hl
  rw [hl] at ho
  simp at ho
  subst ho
  simp only [Bool.and_eq_true] at h
  obtain ⟨⟨⟨h1, h2⟩, h3⟩, ⟨h4, h5⟩, h6⟩ := h
  obtain ⟨g0, t0, x0, y0, p0⟩ := mk h1
  obtain ⟨g1, t1, x1, y1, p1⟩ := mk h2
  cases hd0 : o0.dst with
  | none => rw [hd0] at h3; cases h3
  | some d0 =>
    cases hd1 : o1.dst with
    | none => rw [hd0, hd1] at h3; cases h3
    | some d1 =>
      rw [hd0, hd1] at h3
      simp only [Bool.not_eq_true'] at h3
      have hne : d0 ≠ d1 := fun e => by rw [e, Nat.beq_refl] at h3; cases h3
      refine ⟨o0, rest, d0, d1, t0, x0, y0, t1, x1, y1, hl, g0, g1, p0, p1, hd0, rfl, hne, Nat.eq_of_beq_eq_true h4, Nat.eq_of_beq_eq_true h5, fun q hq h1q => ?_⟩
      have hq' : q < ops.toList.length := by simpa using hq
      have := List.all_eq_true.1 h6 q (by rw [List.mem_range]; exact hq')
      rw [Bool.or_eq_true] at this
      rcases this with this | this
      · have := Nat.le_of_ble_eq_true this; omega
      · exact this
/-- **Every order is followed.** -/
theorem any_ok {ro : Option Nat} {n : Nat} {G : Keep} (hc : CallOk G P call) (hg0 : G.ok m0 L0 w0) (hS : Setting P call ops tr env0 L0 e' L') (hd : dstOk N ops.toList = true) {Q : Exit → Act → World → Prop}
    (fin : ∀ m w a, Rep P m L' w → Tr m0 L0 w0 m L' w → ER m e' a.tmps → a.defers = ds → a.tmps.size = N → Q .normal a w) :
    ∀ (fuel : Nat) (listed : Array Bool) (a : Act) (w : World), Inv P ops tr env0 L0 L' m0 w0 ds N listed a w → listed.toList.count false ≤ fuel → wpAnyIn (fence ro) n P .any ops Q fuel listed a w := by
  have hdst : ∀ (j : Nat) (o : Oper), ops[j]? = some o → ∀ d, o.dst = some d → d < N := fun j o ho d hdd => by
    have := List.all_eq_true.1 hd o (by rw [← Array.mem_def]; exact Array.mem_of_getElem? ho)
    rw [hdd] at this
    simpa using this
  have over : ∀ (listed : Array Bool) (a : Act) (w : World), Inv P ops tr env0 L0 L' m0 w0 ds N listed a w → Region.ready .any ops listed = [] → Q .normal a w := fun listed a w hI hnil => by
    have all : ∀ j, j < ops.size → listed[j]? = some true := fun j => by
      induction j using Nat.strongRecOn with
      | _ j ih =>
        intro hj
        rcases listed_cases (listed := listed) (k := j) (by rw [hI.sz]; exact hj) with h | h
        · exact h
        · exfalso
          have : j ∈ Region.ready .any ops listed := by
            rw [mem_ready]
            have hjl : j < listed.size := by rw [hI.sz]; exact hj
            refine ⟨?_, ops[j], by simp, fun e he hb => ?_⟩
            · rw [Array.getElem?_eq_getElem hjl] at h
              injection h with h
              simp [Array.getD, hjl, h]
            · have hlt := hS.back (j := j) (o := ops[j]) (by simp) he hb
              have := ih e.on hlt (by omega)
              have hel : e.on < listed.size := by rw [hI.sz]; omega
              rw [Array.getElem?_eq_getElem hel] at this
              injection this with this
              simp [Array.getD, hel, this]
          rw [hnil] at this
          cases this
    obtain ⟨m, p, hp, w1, w2, hr, ht, v1, v2⟩ := hI.state
    have hsame := hS.heap_same (ops.size - p) p (by omega) fun q rq h1 h2 h3 h4 => by
      have g1 := w2 q rq h1 h3 h4
      rw [all q (by omega)] at g1; cases g1
    rw [show p + (ops.size - p) = ops.size by omega, hS.final.2] at hsame
    rw [← hsame] at hr ht
    refine fin m w a hr ht (fun t v hv => ?_) hI.defers hI.size
    rw [← hS.final.1] at hv
    rcases hS.env_look t ops.size (Nat.le_refl _) with ⟨i, oi, rci, g1, g2, g3, g4, g5, g6⟩ | ⟨g1, g2⟩
    · rw [g6] at hv
      injection hv with hv
      subst hv
      exact v1 t i rci oi g3 g2 (all i g1) g4 fun k o' h1 h2 _ => g5 k o' h1 (Array.getElem?_eq_some_iff.1 h2).1 h2
    · rw [g2] at hv
      exact v2 t (fun k o' h2 _ => g1 k o' (Array.getElem?_eq_some_iff.1 h2).1 h2) v hv
  intro fuel
  induction fuel using Nat.strongRecOn with
  | _ fuel ihS =>
  cases fuel with
  | zero =>
    intro listed a w hI hcnt
    have hnil : Region.ready .any ops listed = [] := by
      cases hr : Region.ready .any ops listed with
      | nil => rfl
      | cons j l =>
        have hm : j ∈ Region.ready .any ops listed := by rw [hr]; simp
        obtain ⟨h1, o, h2, _⟩ := mem_ready.1 hm
        have hjl : j < listed.size := by rw [hI.sz]; exact (Array.getElem?_eq_some_iff.1 h2).1
        have h3 := getD_true hjl h1
        have : false ∈ listed.toList := by rw [← Array.mem_def]; exact Array.mem_of_getElem? h3
        have := List.count_pos_iff.2 this
        omega
    exact ⟨hnil, over listed a w hI hnil⟩
  | succ fuel =>
    have ih := ihS fuel (Nat.lt_succ_self _)
    intro listed a w hI hcnt
    refine ⟨over listed a w hI, fun j hjr => ?_⟩
    obtain ⟨h1, o, ho, hall⟩ := mem_ready.1 hjr
    have hjs := (Array.getElem?_eq_some_iff.1 ho).1
    have hjl : j < listed.size := by rw [hI.sz]; exact hjs
    have hj := getD_true hjl h1
    have hdeps : ∀ i, bef ops j i = true → listed[i]? = some true := fun i hb => by
      obtain ⟨e, g1, g2, g3⟩ := bef_get (ops := ops.toList) (j := j) (by simpa using ho) hb
      have g4 := getD_false (hall e (by simpa using g1) g2)
      rcases g3 with rfl | g3
      · exact g4
      · exact hI.down e.on i g4 g3
    have hcnt' : (listed.setIfInBounds j true).toList.count false ≤ fuel := by
      have hjl' : j < listed.toList.length := by simpa using hjl
      have e1 : (listed.setIfInBounds j true).toList = listed.toList.set j true := by simp
      have e2 : listed.toList[j] = false := by
        rw [Array.getElem?_eq_getElem hjl] at hj
        exact Option.some.inj hj
      have h0 : 0 < listed.toList.count false := List.count_pos_iff.2 (by rw [← e2]; exact List.getElem_mem _)
      have e3 := List.count_set (a := true) (b := false) hjl'
      rw [e2] at e3
      rw [e1, e3]
      have e4 : (if ((false : Bool) == false) = true then 1 else 0) = 1 := rfl
      have e5 : (if ((true : Bool) == false) = true then 1 else 0) = 0 := rfl
      omega
    obtain ⟨rc, hrc, hloc, henv, hheap, _, hheap2⟩ := hS.recd ho
    obtain ⟨m, p, hp, w1, w2, hr, ht, v1, v2⟩ := hI.state
    have hER := Inv.sees hS ho hrc henv hj hdeps hI.down v1 v2
    unfold wpOpIn
    rw [ho]
    simp only
    -- an operation that leaves the heap alone
    have quiet : rc.t ≠ 3 → ∀ v' : Value, VR m rc.v v' → wpAnyIn (fence ro) n P .any ops Q fuel (listed.setIfInBounds j true) (a.put o.dst v') w := fun hne v' hv => by
      have k1 : ∀ (q : Nat) (rq : Rec), p ≤ q → tr[q]? = some rq → rq.t = 3 → q ≠ j ∧ listed[q]? = some false := fun q rq h1 h2 h3 => by
        refine ⟨fun e => ?_, w2 q rq h1 h2 h3⟩
        rw [e, hrc] at h2
        have h2 := Option.some.inj h2
        exact hne (by rw [h2]; exact h3)
      exact ih _ _ _ (Inv.step hS hI ho hrc hj hdeps (hdst j o ho) (p := 0) hp (.refl m) (fun q rq h1 h2 h3 => .inr (w1 q rq h1 h2 h3)) k1 hr ht hv v1 v2) hcnt'
    have quiet2 : rc.t ≠ 3 → kindOf P o.op ≠ .write → Val P o rc.env (heapAt tr L' p) rc.v → o.wpIn (fence ro) n P a w (wpAnyIn (fence ro) n P .any ops Q fuel (listed.setIfInBounds j true)) Q := fun hne hk hv => by
      have hv' : Val P o (res rc.env (tmpsOf ops.toList o)) (heapAt tr L' p) rc.v := fun K2 => by rw [lop_res]; exact hv K2
      obtain ⟨v', g1, g2⟩ := hv'.quiet hk m w a hr hER
      refine ⟨fun _ _ => trivial, ?_⟩
      rw [Oper.semAt_eq _ _ _ (lop_no_defer (hv' fun v L => some (.ret v L)))]
      rcases g1 with g1 | ⟨g1, rfl⟩
      · rw [g1]; exact quiet hne v' g2
      · rw [g1]; exact quiet hne _ g2
    have hwant : ∀ b, wants ops.toList rc.env o = some b → Region.wanted o (yielded ops a.tmps) = b := fun b hb => wants_ok hER (by rw [wants_res]; exact hb)
    rcases hloc with ⟨h2, h3, h4, h5⟩ | ⟨h2, h3, h4, h5, h6⟩ | ⟨h2, h3, h4, h5, h6⟩ | ⟨h2, h3, h4, h5⟩
    · rw [if_neg (by rw [hwant _ h3]; simp)]
      refine ⟨fun _ _ => trivial, ?_⟩
      exact quiet (by omega) Go.undef (by rw [h4]; exact .undef)
    · rw [if_pos (hwant _ h3)]
      exact (quiet2 (by omega) (by rw [h4]; intro h; cases h) (h6 _))
    · rw [if_pos (hwant _ h3)]
      exact (quiet2 (by omega) (by rw [h4]; intro h; cases h) (Inv.reads hS ho hrc hj hdeps hI.down hp w1 w2 h2 h6 h5 hheap hheap2))
    · rw [if_pos (hwant _ h3)]
      -- no write between p and j
      have hpj : p ≤ j := by
        rcases Nat.lt_or_ge j p with h | h
        · have g1 := w1 j rc h hrc h2
          rw [hj] at g1; cases g1
        · exact h
      by_cases hsw : twoMakes ops.toList (befores ops.toList []) = true ∧ j = 1 ∧ listed[0]? = some false
      · -- the second one of two makes ahead of the first one
        obtain ⟨htw, rfl, h0f⟩ := hsw
        obtain ⟨o0, rest, d0, d1, t0, x0, y0, t1, x1, y1, hol, hg0, hg1, hop0, hop1, hd0, hd1, hdd, hb0, hb1, hall2⟩ := twoMakes_facts (by simpa using ho) htw
        have ho0 : ops[0]? = some o0 := by rw [← Array.getElem?_toList, hol]; rfl
        have hfalse : ∀ q, q < ops.size → listed[q]? = some false := fun q hq => by
          rcases listed_cases (listed := listed) (k := q) (by rw [hI.sz]; exact hq) with hh | hh
          · exfalso
            rcases Nat.lt_or_ge 1 q with h1q | h1q
            · have := hI.down q 0 hh (hall2 q hq h1q)
              rw [h0f] at this; cases this
            · have : q = 0 ∨ q = 1 := by omega
              rcases this with rfl | rfl
              · rw [h0f] at hh; cases hh
              · rw [hj] at hh; cases hh
          · exact hh
        obtain ⟨rc0, hrc0, hloc0, henv0, hheap0, henv1, hheap1⟩ := hS.recd ho0
        have hw0 : wants ops.toList rc0.env o0 = some true := by unfold wants; rw [hg0]
        have hk0 : kindOf P o0.op = .write := by rw [hop0]; rfl
        have hloc0' : rc0.t = 3 ∧ ∀ K2, lstepD P call rc0.env rc0.L o0 K2 = K2 rc0.v rc0.L' := by
          rcases hloc0 with ⟨_, q1, _⟩ | ⟨_, _, q1, _⟩ | ⟨_, _, q1, _⟩ | ⟨q1, _, _, q2⟩
          · rw [hw0] at q1; cases q1
          · rw [hk0] at q1; cases q1
          · rw [hk0] at q1; cases q1
          · exact ⟨q1, q2⟩
        have hp0 : p = 0 := by
          rcases Nat.eq_zero_or_pos p with hh | hh
          · exact hh
          · have := w1 0 rc0 hh hrc0 hloc0'.1
            rw [h0f] at this; cases this
        subst hp0
        rw [hheap0] at hr ht
        have env_nil : ∀ {env : Env} {o : Oper} {t : TypeId} {x y : Value} {K2 : Value → LHeap → R} {H : LHeap}, o.op = .makeSlice t (.const x) (.const y) → lstepD P call env H o K2 = lop P [] H o K2 := fun {env o t x y K2 H} hop => by
          unfold lstepD
          rw [hop]
          simp only
          exact lop_congr (fun z hz => by rw [hop] at hz; simp [Op.operands] at hz; rcases hz with rfl | rfl <;> rfl) K2
        obtain ⟨cs0, cc0, e0, n0, c0, v0, l0, z0, vr0, on0, run0⟩ := make_facts (o := o0) hop0 (fun K2 => by rw [← env_nil hop0]; exact hloc0'.2 K2)
        obtain ⟨cs1, cc1, e1, n1, c1, v1', l1, z1, vr1, on1, run1⟩ := make_facts (o := o) hop1 (fun K2 => by rw [← env_nil hop1]; exact h5 K2)
        have hL1 : rc.L = rc0.L' := by rw [← hheap]; exact hheap1
        have er0 : ∀ (b : Act), ER m ([] : Env) b.tmps := fun b t v hv => by cases hv
        refine ⟨fun _ _ => trivial, ?_⟩
        rw [Oper.semAt_eq _ _ _ (lop_no_defer (K := fun v L => some (.ret v L)) (env := []) (L := rc.L) (r := .ret rc.v rc.L') (by rw [← env_nil (env := rc.env) hop1]; exact h5 _)), run1 m w a (er0 a)]
        rw [Oper.uponIn_value]
        -- now the first one
        cases fuel with
        | zero =>
          exfalso
          have hz : 0 < (listed.setIfInBounds 1 true).toList.count false := by
            have : (listed.setIfInBounds 1 true)[0]? = some false := (listed_set_false hjl).2 ⟨by omega, h0f⟩
            exact List.count_pos_iff.2 (by rw [← Array.mem_def]; exact Array.mem_of_getElem? this)
          omega
        | succ fuel =>
          have h0s : 0 < ops.size := by omega
          refine ⟨fun hnil => ?_, fun q hq => ?_⟩
          · exfalso
            have : 0 ∈ Region.ready .any ops (listed.setIfInBounds 1 true) := by
              rw [mem_ready]
              refine ⟨?_, o0, ho0, fun e he hbd => ?_⟩
              · have := (listed_set_false (k := 0) hjl).2 ⟨by omega, h0f⟩
                have hsz0 : 0 < (listed.setIfInBounds 1 true).size := by simp; omega
                rw [Array.getElem?_eq_getElem hsz0] at this
                injection this with this
                simp [Array.getD, this]
                omega
              · exact absurd (hS.back ho0 he hbd) (by omega)
            rw [hnil] at this; cases this
          · obtain ⟨k1, oq, k2, k3⟩ := mem_ready.1 hq
            have hqs := (Array.getElem?_eq_some_iff.1 k2).1
            have hq0 : q = 0 := by
              have hlq := getD_true (by simp; rw [hI.sz]; exact hqs) k1
              rw [listed_set_false hjl] at hlq
              rcases Nat.lt_or_ge 1 q with h1q | h1q
              · exfalso
                have hbq := (hall2 q hqs h1q)
                -- an edge leads to 0
                have deep : ∀ x, x < ops.size → 0 < x → bef ops x 0 = true → ∀ ox, ops[x]? = some ox → (∀ e ∈ ox.after, Region.binds .any e = true → (listed.setIfInBounds 1 true).getD e.on false = true) → False := by
                  intro x hx hx0 hbx ox hox hallx
                  obtain ⟨e, g1, g2, g3⟩ := bef_get (ops := ops.toList) (j := x) (by simpa using hox) hbx
                  have g4 := getD_false (hallx e (by simpa using g1) g2)
                  rw [listed_set hjl] at g4
                  rcases g3 with g3 | g3
                  · rw [g3] at g4
                    rcases g4 with g4 | g4
                    · omega
                    · rw [h0f] at g4; cases g4
                  · rcases g4 with g4 | g4
                    · rw [g4] at g3
                      have : bef ops 1 0 = true := g3
                      unfold bef at this
                      rw [hb1] at this
                      simp [tbit_eq] at this
                    · have := hI.down _ 0 g4 g3
                      rw [h0f] at this; cases this
                exact deep q hqs (by omega) hbq oq k2 k3
              · have : q ≠ 1 := hlq.1
                omega
            subst hq0
            rw [ho0] at k2; injection k2 with k2; subst k2
            unfold wpOpIn
            rw [ho0]
            simp only
            rw [if_pos (by unfold Region.wanted; rw [hg0])]
            refine ⟨fun _ _ => trivial, ?_⟩
            rw [Oper.semAt_eq _ _ _ (lop_no_defer (K := fun v L => some (.ret v L)) (env := []) (L := rc0.L) (r := .ret rc0.v rc0.L') (by rw [← env_nil (env := rc0.env) hop0]; exact hloc0'.2 _)), run0 m _ _ (er0 _)]
            rw [Oper.uponIn_value]
            obtain ⟨m2, mm0, mm1, rep2, tr2⟩ := hr.pair (w' := { w with heap := (w.heap.push (.cells cc1 e1)).push (.cells cc0 e0) }) vr0 vr1 on0 on1 rfl rfl rfl rfl
            have hdl0 : d0 < N := hdst 0 o0 ho0 d0 hd0
            have hdl1 : d1 < N := hdst 1 o ho d1 hd1
            have hcnt2 : ((listed.setIfInBounds 1 true).setIfInBounds 0 true).toList.count false ≤ fuel := by
              have hjl' : 0 < (listed.setIfInBounds 1 true).toList.length := by simp; omega
              have e1 : ((listed.setIfInBounds 1 true).setIfInBounds 0 true).toList = (listed.setIfInBounds 1 true).toList.set 0 true := by simp
              have e2 : (listed.setIfInBounds 1 true).toList[0] = false := by
                have := (listed_set_false (k := 0) hjl).2 ⟨by omega, h0f⟩
                have hsz0 : 0 < (listed.setIfInBounds 1 true).size := by simp; omega
                rw [Array.getElem?_eq_getElem hsz0] at this
                injection this with this
              have h0 : 0 < (listed.setIfInBounds 1 true).toList.count false := List.count_pos_iff.2 (by rw [← e2]; exact List.getElem_mem _)
              have e3 := List.count_set (a := true) (b := false) hjl'
              rw [e2] at e3
              rw [e1, e3]
              have e4 : (if ((false : Bool) == false) = true then 1 else 0) = 1 := rfl
              have e5 : (if ((true : Bool) == false) = true then 1 else 0) = 0 := rfl
              omega
            refine ihS fuel (by omega) _ _ _ ?_ hcnt2
            have hsz1 : 0 < (listed.setIfInBounds 1 true).size := by simp; omega
            have ls : ∀ k, ((listed.setIfInBounds 1 true).setIfInBounds 0 true)[k]? = some true ↔ (k = 0 ∨ k = 1) := fun k => by
              rw [listed_set hsz1, listed_set hjl]
              constructor
              · rintro (h | h | h)
                · exact .inl h
                · exact .inr h
                · have := (Array.getElem?_eq_some_iff.1 h).1
                  rw [hfalse k (by rw [← hI.sz]; exact this)] at h; cases h
              · rintro (h | h)
                · exact .inl h
                · exact .inr (.inl h)
            have lf : ∀ k, k < ops.size → 1 < k → ((listed.setIfInBounds 1 true).setIfInBounds 0 true)[k]? = some false := fun k hk h1k => by
              rw [listed_set_false hsz1, listed_set_false hjl]
              exact ⟨by omega, by omega, hfalse k hk⟩
            have hh2 : heapAt tr L' 2 = rc0.L ++ [.cells cs0 e0 false 0] ++ [.cells cs1 e1 false 0] := by
              have hx : heapAt tr L' (1 + 1) = rc.L' := hheap2
              rw [show (2 : Nat) = 1 + 1 from rfl, hx, l1, hL1, l0]
            have hv0 : VR m2 rc0.v (.slice (some ⟨(w.heap.push (.cells cc1 e1)).size, 0, none⟩) n0 c0) := by
              rw [v0]
              have := VR.slice (m := m2) (a := ⟨rc0.L.length, 0, none⟩) (n := n0) (c := c0) mm0 z0
              simpa [Info.at] using this
            have hv1 : VR m2 rc.v (.slice (some ⟨w.heap.size, 0, none⟩) n1 c1) := by
              rw [v1', hL1, l0]
              have := VR.slice (m := m2) (a := ⟨rc0.L.length + 1, 0, none⟩) (n := n1) (c := c1) mm1 z1
              simpa [Info.at] using this
            have tm : ∀ t, t ≠ d0 → t ≠ d1 → ((a.put o.dst (.slice (some ⟨w.heap.size, 0, none⟩) n1 c1)).put o0.dst (.slice (some ⟨(w.heap.push (.cells cc1 e1)).size, 0, none⟩) n0 c0)).tmps[t]? = a.tmps[t]? := fun t h0 h1 => by
              rw [hd0, hd1]
              simp only [Act.put]
              rw [Array.getElem?_setIfInBounds_ne (fun e => h0 e.symm), Array.getElem?_setIfInBounds_ne (fun e => h1 e.symm)]
            have tm0 : ((a.put o.dst (.slice (some ⟨w.heap.size, 0, none⟩) n1 c1)).put o0.dst (.slice (some ⟨(w.heap.push (.cells cc1 e1)).size, 0, none⟩) n0 c0)).tmps[d0]? = some (.slice (some ⟨(w.heap.push (.cells cc1 e1)).size, 0, none⟩) n0 c0) := by
              rw [hd0]
              simp only [Act.put]
              rw [Array.getElem?_setIfInBounds, if_pos rfl, if_pos (by
                rw [hd1]
                simp only [Array.size_setIfInBounds]
                rw [hI.size]; exact hdl0)]
            have tm1 : ((a.put o.dst (.slice (some ⟨w.heap.size, 0, none⟩) n1 c1)).put o0.dst (.slice (some ⟨(w.heap.push (.cells cc1 e1)).size, 0, none⟩) n0 c0)).tmps[d1]? = some (.slice (some ⟨w.heap.size, 0, none⟩) n1 c1) := by
              rw [hd0, hd1]
              simp only [Act.put]
              rw [Array.getElem?_setIfInBounds_ne hdd, Array.getElem?_setIfInBounds, if_pos rfl, if_pos (by rw [hI.size]; exact hdl1)]
            refine ⟨by simpa using hI.sz, fun k i hk hb => ?_, ⟨m2, 2, by omega, fun q rq k1 k2 k3 => (ls q).2 (by omega), fun q rq k1 k2 k3 => lf q (by have := (List.getElem?_eq_some_iff.1 k2).1; rw [hS.len] at this; exact this) (by omega), by rw [hh2]; exact rep2, by rw [hh2]; exact ht.trans tr2, fun t i rci oi k1 k2 k3 k4 k5 => ?_, fun t k1 v hv2 => ?_⟩, by rw [put_defers, put_defers]; exact hI.defers, by rw [put_size, put_size]; exact hI.size⟩
            · rw [ls] at hk ⊢
              exfalso
              rcases hk with rfl | rfl
              · have : bef ops 0 i = true := hb
                unfold bef at this
                rw [hb0] at this
                simp [tbit_eq] at this
              · have : bef ops 1 i = true := hb
                unfold bef at this
                rw [hb1] at this
                simp [tbit_eq] at this
            · rw [ls] at k3
              rcases k3 with rfl | rfl
              · rw [hrc0] at k1; injection k1 with k1; subst k1
                rw [ho0] at k2; injection k2 with k2; subst k2
                rw [hd0] at k4; injection k4 with k4; subst k4
                exact ⟨_, tm0, hv0⟩
              · rw [hrc] at k1; injection k1 with k1; subst k1
                rw [ho] at k2; injection k2 with k2; subst k2
                rw [hd1] at k4; injection k4 with k4; subst k4
                exact ⟨_, tm1, hv1⟩
            · have hn0 : t ≠ d0 := fun e => k1 0 o0 ho0 ((ls 0).2 (.inl rfl)) (by rw [hd0, e])
              have hn1 : t ≠ d1 := fun e => k1 1 o ho ((ls 1).2 (.inr rfl)) (by rw [hd1, e])
              rw [tm t hn0 hn1]
              obtain ⟨v', y1, y2⟩ := v2 t (fun k o' z2 z3 => by
                have := (Array.getElem?_eq_some_iff.1 z2).1
                rw [hfalse k this] at z3; cases z3) v hv2
              exact ⟨v', y1, y2.mono tr2.ext⟩
      have earlier : ∀ q rq, q < j → tr[q]? = some rq → rq.t = 3 → listed[q]? = some true := fun q rq hq g1 g2 => by
        have hoq : ∃ oq, ops[q]? = some oq := ⟨ops[q], by simp⟩
        obtain ⟨oq, hoq⟩ := hoq
        rcases (hS.trc.pairs q j rq rc oq o hq g1 hrc (by simpa using hoq) (by simpa using ho)).1 g2 h2 with this | ⟨k1, k2⟩
        · exact hdeps q (by show tbit ((befores ops.toList []).getD j 0) q = true; simpa using this)
        · rcases listed_cases (listed := listed) (k := q) (by rw [hI.sz]; omega) with hh | hh
          · exact hh
          · exfalso
            have : q = 0 := by omega
            subst this
            exact hsw ⟨k1, by omega, hh⟩
      have hsame := hS.heap_same (j - p) p (by omega) fun q rq g1 g2 g3 g4 => by
        have k1 := earlier q rq (by omega) g3 g4
        rw [w2 q rq g1 g3 g4] at k1; cases k1
      rw [show p + (j - p) = j by omega, hheap] at hsame
      rw [← hsame] at hr ht
      refine (lstepD_ok hc (env := res rc.env (tmpsOf ops.toList o)) (fun K2 => by rw [lstepD_res]; exact h5 K2) hr (hg0.tr ht) hER fun m' w' v' g1 g2 g3 => ?_)
      refine ih _ _ _ (Inv.step hS hI ho hrc hj hdeps (hdst j o ho) (m := m) (p := 0) (p' := j + 1) (by omega) g3.ext (fun q rq k1 k2 k3 => ?_) (fun q rq k1 k2 k3 => ?_) (by rw [hheap2]; exact g2) (by rw [hheap2]; exact ht.trans g3) g1 v1 v2) hcnt'
      · rcases Nat.lt_or_ge q j with h | h
        · exact .inr (earlier q rq h k2 k3)
        · exact .inl (by omega)
      · refine ⟨by omega, w2 q rq (by omega) k2 k3⟩
end
end Go.Rlm
end

section
namespace Go.Rlm
section
variable {P : Program} {m : RMap} {L : LHeap} {w : World}
/-- A range over a function begins: two blocks more. -/
theorem Rep.pushLoop (h : Rep P m L w) {f id : Nat} {env : Env} {lp : Loop} (hl : LoopRel P m f id env .ready lp) :
    Rep P (ins m L.length ⟨w.heap.size + 1, 0, 0, 0⟩) (L ++ [.loop f id env .ready]) ((w.alloc (.deferred (some []))).alloc (.loop lp)) ∧
    Tr m L w (ins m L.length ⟨w.heap.size + 1, 0, 0, 0⟩) (L ++ [.loop f id env .ready]) ((w.alloc (.deferred (some []))).alloc (.loop lp)) := by
  have hext := MExt.ins (m := m) (r := L.length) ⟨w.heap.size + 1, 0, 0, 0⟩ (h.fresh _ (Nat.le_refl _))
  have hheap : ((w.alloc (.deferred (some []))).alloc (.loop lp)).heap = (w.heap.push (.deferred (some []))).push (.loop lp) := rfl
  have hold : ∀ b, b < w.heap.size → ((w.alloc (.deferred (some []))).alloc (.loop lp)).heap[b]? = w.heap[b]? := fun b hb => by
    rw [hheap, Array.getElem?_push, if_neg (by simp; omega), Array.getElem?_push, if_neg (by omega)]
  have hnew : ((w.alloc (.deferred (some []))).alloc (.loop lp)).heap[w.heap.size + 1]? = some (.loop lp) := by
    rw [hheap, Array.getElem?_push, if_pos (by simp)]
  have hins : ∀ r i, r < L.length → ins m L.length ⟨w.heap.size + 1, 0, 0, 0⟩ r = some i → m r = some i := fun r i hr hm => by
    unfold Rlm.ins at hm
    rw [if_neg (by omega)] at hm
    exact hm
  have hself : ins m L.length ⟨w.heap.size + 1, 0, 0, 0⟩ L.length = some ⟨w.heap.size + 1, 0, 0, 0⟩ := by unfold Rlm.ins; rw [if_pos rfl]
  have hget : ∀ (r : Nat) (b : LBlk), (L ++ [LBlk.loop f id env .ready])[r]? = some b → (r < L.length ∧ L[r]? = some b) ∨ (r = L.length ∧ b = .loop f id env .ready) := fun r b hr => by
    rcases Nat.lt_trichotomy r L.length with h1 | h1 | h1
    · rw [List.getElem?_append_left h1] at hr; exact .inl ⟨h1, hr⟩
    · subst h1; rw [List.getElem?_append_right (Nat.le_refl _)] at hr; simp at hr; exact .inr ⟨rfl, hr.symm⟩
    · rw [List.getElem?_eq_none (by simp; omega)] at hr; cases hr
  have hown : ∀ r, own (L ++ [LBlk.loop f id env .ready]) r → r < L.length ∧ own L r := fun r ⟨cs, e, sp, hr⟩ => by
    rcases hget _ _ hr with ⟨g1, g2⟩ | ⟨_, g⟩
    · exact ⟨g1, cs, e, sp, g2⟩
    · cases g
  have hlt : ∀ r i, r < L.length → (∃ o, w.heap[i.blk]? = some o) → m r = some i → i.blk < w.heap.size := fun r i _ ⟨o, ho⟩ _ => (Array.getElem?_eq_some_iff.1 ho).1
  refine ⟨⟨fun r hr => ?_, fun r cs e ro sp hr => ?_, fun r r' i i' h1 h2 hne h3 h4 => ?_, ⟨fun r f' id' env' st' hr => ?_, fun r r' f1 id1 env1 st1 f2 id2 env2 st2 i i' h1 h2 hne h3 h4 => ?_, fun r es ck hr => ?_, fun r r' es ck es' ck' i i' h1 h2 hne h3 h4 => ?_⟩⟩,
    ⟨hext, by simp, by show w.heap.size ≤ ((w.heap.push _).push _).size; simp; omega, rfl, rfl, rfl, fun r i hr hi => ?_, fun b hb _ => hold b hb⟩⟩
  · simp at hr
    unfold Rlm.ins
    rw [if_neg (by omega)]
    exact h.fresh r (by omega)
  · rcases hget _ _ hr with ⟨g1, g2⟩ | ⟨_, g⟩
    · obtain ⟨i, h1, h2⟩ := h.row _ _ _ _ _ g2
      obtain ⟨cp, e', fz, h3⟩ := h.blk_cells g2 h1
      exact ⟨i, hext _ _ h1, h2.heap hext (hold _ (Array.getElem?_eq_some_iff.1 h3).1)⟩
    · cases g
  · obtain ⟨g1, g2⟩ := hown r h1
    obtain ⟨cs, e, ro, sp, h2⟩ := h2
    rcases hget _ _ h2 with ⟨g3, g4⟩ | ⟨_, g⟩
    · exact h.sep r r' i i' g2 ⟨_, _, _, _, g4⟩ hne (hins _ _ g1 h3) (hins _ _ g3 h4)
    · cases g
  · rcases hget _ _ hr with ⟨g1, g2⟩ | ⟨g1, g2⟩
    · obtain ⟨i, lp', h1, h2, h3⟩ := h.loops.row _ _ _ _ _ g2
      exact ⟨i, lp', hext _ _ h1, by rw [hold _ (Array.getElem?_eq_some_iff.1 h2).1]; exact h2, ⟨h3.code, h3.env.mono hext, h3.st⟩⟩
    · subst g1
      injection g2 with e1 e2 e3 e4
      subst e1; subst e2; subst e3; subst e4
      exact ⟨_, lp, hself, hnew, ⟨hl.code, hl.env.mono hext, hl.st⟩⟩
  · rcases hget _ _ h1 with ⟨g1, g2⟩ | ⟨g1, g2⟩ <;> rcases hget _ _ h2 with ⟨g3, g4⟩ | ⟨g3, g4⟩
    · exact h.loops.sep _ _ _ _ _ _ _ _ _ _ _ _ g2 g4 hne (hins _ _ g1 h3) (hins _ _ g3 h4)
    · subst g3
      obtain ⟨lp', k1, _⟩ := h.blk_loop g2 (hins _ _ g1 h3)
      have := (Array.getElem?_eq_some_iff.1 k1).1
      rw [hself] at h4; injection h4 with h4; subst h4
      simp only; omega
    · subst g1
      obtain ⟨lp', k1, _⟩ := h.blk_loop g4 (hins _ _ g3 h4)
      have := (Array.getElem?_eq_some_iff.1 k1).1
      rw [hself] at h3; injection h3 with h3; subst h3
      simp only; omega
    · omega
  · rcases hget _ _ hr with ⟨g1, g2⟩ | ⟨_, g⟩
    · obtain ⟨i, ms, h1, h2, h3⟩ := h.loops.mrow _ _ _ g2
      exact ⟨i, ms, hext _ _ h1, by rw [hold _ (Array.getElem?_eq_some_iff.1 h2).1]; exact h2, h3.mono hext⟩
    · cases g
  · rcases hget _ _ h1 with ⟨g1, g2⟩ | ⟨_, g⟩
    · rcases hget _ _ h2 with ⟨g3, g4⟩ | ⟨_, g⟩
      · exact h.loops.msep _ _ _ _ _ _ _ _ g2 g4 hne (hins _ _ g1 h3) (hins _ _ g3 h4)
      · cases g
    · cases g
  · rcases hr with hr | ⟨b, hb, hr⟩
    · obtain ⟨g1, g2⟩ := hown r hr
      exact .inl ⟨r, i, .inl g2, hins _ _ g1 hi, rfl⟩
    · rcases hget _ _ hr with ⟨g1, g2⟩ | ⟨g1, g2⟩
      · exact .inl ⟨r, i, .inr ⟨_, hb, g2⟩, hins _ _ g1 hi, rfl⟩
      · subst g1
        rw [hself] at hi; injection hi with hi; subst hi
        exact .inr (by simp)
/-- A record turns. -/
theorem Rep.setLoop (h : Rep P m L w) {j f id : Nat} {env : Env} {st : LSt} (hj : L[j]? = some (.loop f id env st)) {i : Info} (hi : m j = some i) (b : LBlk) (lp : Loop)
    (hc : ∀ cs e ro sp, b ≠ .cells cs e ro sp) (hcm : ∀ es ck, b ≠ .map es ck) (hb : ∀ f' id' env' st', b = .loop f' id' env' st' → LoopRel P m f' id' env' st' lp) :
    Rep P m (L.set j b) (w.putObj i.blk (.loop lp)) ∧ Tr m L w m (L.set j b) (w.putObj i.blk (.loop lp)) := by
  have hlt : j < L.length := (List.getElem?_eq_some_iff.1 hj).1
  obtain ⟨lp0, hheap, hrel0⟩ := h.blk_loop hj hi
  have hsz : i.blk < w.heap.size := (Array.getElem?_eq_some_iff.1 hheap).1
  have hget : ∀ (r : Nat) (c : LBlk), (L.set j b)[r]? = some c → (r = j ∧ c = b) ∨ (r ≠ j ∧ L[r]? = some c) := fun r c hr => by
    by_cases hrj : j = r
    · subst hrj; rw [List.getElem?_set_self hlt] at hr; injection hr with hr; exact .inl ⟨rfl, hr.symm⟩
    · rw [List.getElem?_set_ne hrj] at hr; exact .inr ⟨fun e => hrj e.symm, hr⟩
  have hcells : ∀ (r : Nat) (cs : List Value) (e : TypeId) (ro : Bool) (sp : Nat), (L.set j b)[r]? = some (.cells cs e ro sp) → L[r]? = some (.cells cs e ro sp) := fun r cs e ro sp hr => by
    rcases hget _ _ hr with ⟨_, g⟩ | ⟨_, g⟩
    · exact absurd g.symm (hc _ _ _ _)
    · exact g
  have hother : ∀ k, k ≠ i.blk → (w.putObj i.blk (.loop lp)).heap[k]? = w.heap[k]? := fun k hk => World.putObj_heap_other hk
  refine ⟨⟨fun r hr => h.fresh r (by simpa using hr), fun r cs e ro sp hr => ?_, fun r r' i1 i2 h1 h2 hne h3 h4 => ?_, ⟨fun r f' id' env' st' hr => ?_, fun r r' f1 id1 env1 st1 f2 id2 env2 st2 i1 i2 h1 h2 hne h3 h4 => ?_, fun r es ck hr => ?_, fun r r' es ck es' ck' i1 i2 h1 h2 hne h3 h4 => ?_⟩⟩,
    ⟨.refl m, by simp, by simp, rfl, rfl, rfl, fun r i' hr hi' => ?_, fun k hk hn => hother k fun e => hn j i (.inr ⟨_, rfl, hj⟩) hi e.symm⟩⟩
  · have hr := hcells _ _ _ _ _ hr
    obtain ⟨i', g1, g2⟩ := h.row _ _ _ _ _ hr
    obtain ⟨cp, e', fz, g3⟩ := h.blk_cells hr g1
    exact ⟨i', g1, g2.heap (.refl m) (hother _ fun e => by rw [e, hheap] at g3; cases g3)⟩
  · obtain ⟨cs, e, sp, h1⟩ := h1
    obtain ⟨cs', e', ro', sp', h2⟩ := h2
    exact h.sep r r' i1 i2 ⟨_, _, _, hcells _ _ _ _ _ h1⟩ ⟨_, _, _, _, hcells _ _ _ _ _ h2⟩ hne h3 h4
  · rcases hget _ _ hr with ⟨g1, g2⟩ | ⟨g1, g2⟩
    · subst g1
      exact ⟨i, lp, hi, World.putObj_heap_same hsz, hb _ _ _ _ g2.symm⟩
    · obtain ⟨i', lp', k1, k2, k3⟩ := h.loops.row _ _ _ _ _ g2
      exact ⟨i', lp', k1, by rw [hother _ (h.loops.sep _ _ _ _ _ _ _ _ _ _ _ _ g2 hj g1 k1 hi)]; exact k2, k3⟩
  · have key : ∀ (r f' id' : Nat) (env' : Env) (st' : LSt), (L.set j b)[r]? = some (.loop f' id' env' st') → ∃ f3 id3 env3 st3, L[r]? = some (.loop f3 id3 env3 st3) := fun r f' id' env' st' hr => by
      rcases hget _ _ hr with ⟨g1, _⟩ | ⟨_, g2⟩
      · subst g1; exact ⟨_, _, _, _, hj⟩
      · exact ⟨_, _, _, _, g2⟩
    obtain ⟨_, _, _, _, k1⟩ := key _ _ _ _ _ h1
    obtain ⟨_, _, _, _, k2⟩ := key _ _ _ _ _ h2
    exact h.loops.sep _ _ _ _ _ _ _ _ _ _ _ _ k1 k2 hne h3 h4
  · rcases hget _ _ hr with ⟨_, g⟩ | ⟨_, g2⟩
    · exact absurd g.symm (hcm _ _)
    · obtain ⟨i', ms, k1, k2, k3⟩ := h.loops.mrow _ _ _ g2
      exact ⟨i', ms, k1, by rw [hother _ fun e => by rw [e, hheap] at k2; cases k2]; exact k2, k3⟩
  · rcases hget _ _ h1 with ⟨_, g⟩ | ⟨_, g1⟩
    · exact absurd g.symm (hcm _ _)
    · rcases hget _ _ h2 with ⟨_, g⟩ | ⟨_, g2⟩
      · exact absurd g.symm (hcm _ _)
      · exact h.loops.msep _ _ _ _ _ _ _ _ g1 g2 hne h3 h4
  · refine .inl ⟨r, i', ?_, hi', rfl⟩
    rcases hr with ⟨cs, e, sp, hr⟩ | ⟨c, hcA, hr⟩
    · exact .inl ⟨cs, e, sp, hcells _ _ _ _ _ hr⟩
    · rcases hget _ _ hr with ⟨g1, _⟩ | ⟨_, g2⟩
      · subst g1; exact .inr ⟨_, rfl, hj⟩
      · exact .inr ⟨_, hcA, g2⟩
def mark (k : Nat) : Deferred := { target := .collected k, args := #[] }
/-- Deferred calls that are marks of blocks without calls. -/
def DOk (w : World) (B : Nat) (ds : List Deferred) : Prop := ∃ ks : List Nat, ds = ks.map mark ∧ ks.Nodup ∧ ∀ k ∈ ks, B ≤ k ∧ w.heap[k]? = some (.deferred (some []))
theorem DOk.nil {B : Nat} : DOk w B [] := ⟨[], rfl, List.nodup_nil, fun _ h => by cases h⟩
theorem Rep.not_mine (h : Rep P m L w) {k : Nat} {x : Option (List Deferred)} (hk : w.heap[k]? = some (.deferred x)) : ∀ r i, mine L r → m r = some i → i.blk ≠ k := fun r i hr hi e => by
  rcases h.blk_mine hr hi with ⟨_, _, _, g⟩ | ⟨_, ho, g⟩
  · rw [e, hk] at g; cases g
  · rw [e, hk] at g; injection g with g; subst g; cases ho
theorem DOk.tr {m' : RMap} {L' : LHeap} {w' : World} {B : Nat} {ds : List Deferred} (h : DOk w B ds) (hr : Rep P m L w) (ht : Tr m L w m' L' w') : DOk w' B ds := by
  obtain ⟨ks, h1, h2, h3⟩ := h
  refine ⟨ks, h1, h2, fun k hk => ?_⟩
  obtain ⟨g1, g2⟩ := h3 k hk
  exact ⟨g1, by rw [ht.frame k (Array.getElem?_eq_some_iff.1 g2).1 (hr.not_mine g2)]; exact g2⟩
theorem DOk.same {w' : World} {B : Nat} {ds : List Deferred} (h : DOk w B ds) (hw : ∀ k, k < w.heap.size → w'.heap[k]? = w.heap[k]?) : DOk w' B ds := by
  obtain ⟨ks, h1, h2, h3⟩ := h
  refine ⟨ks, h1, h2, fun k hk => ?_⟩
  obtain ⟨g1, g2⟩ := h3 k hk
  exact ⟨g1, by rw [hw k (Array.getElem?_eq_some_iff.1 g2).1]; exact g2⟩
def shut : List Nat → World → World
  | [], w => w
  | k :: ks, w => shut ks (w.putObj k (.deferred none))
theorem Rep.putDeferred (h : Rep P m L w) {k : Nat} {x : Option (List Deferred)} (hk : w.heap[k]? = some (.deferred x)) (o : Obj) : Rep P m L (w.putObj k o) := by
  have hother : ∀ b, b ≠ k → (w.putObj k o).heap[b]? = w.heap[b]? := fun b hb => World.putObj_heap_other hb
  refine ⟨h.fresh, fun r cs e ro sp hr => ?_, h.sep, h.loops.keep (.refl m) (fun _ _ _ h => h) fun b o hab hb => ?_⟩
  · obtain ⟨i, h1, h2⟩ := h.row _ _ _ _ _ hr
    obtain ⟨cp, e', fz, h3⟩ := h.blk_cells hr h1
    exact ⟨i, h1, h2.heap (.refl m) (hother _ fun e => by rw [e, hk] at h3; cases h3)⟩
  · rw [hother b fun e => by rw [e, hk] at hb; injection hb with hb; subst hb; cases hab]; exact hb
theorem shut_ok : ∀ (ks : List Nat) (w' : World) {m' : RMap} {L' : LHeap}, ks.Nodup → (∀ k ∈ ks, w.heap.size ≤ k ∧ w'.heap[k]? = some (.deferred (some []))) → Rep P m' L' w' → Tr m L w m' L' w' →
    Rep P m' L' (shut ks w') ∧ Tr m L w m' L' (shut ks w')
  | [], w', m', L', _, _, hr, ht => ⟨hr, ht⟩
  | k :: ks, w', m', L', hn, hk, hr, ht => by
    obtain ⟨g1, g2⟩ := hk k (by simp)
    rw [List.nodup_cons] at hn
    refine shut_ok ks _ hn.2 (fun k' hk' => ?_) (hr.putDeferred g2 _) ⟨ht.ext, ht.len, by simpa using ht.size, ht.os, ht.tape, ht.output, ht.foot, fun b hb hno => ?_⟩
    · obtain ⟨k1, k2⟩ := hk k' (by simp [hk'])
      have hne : k' ≠ k := fun e => hn.1 (by rw [← e]; exact hk')
      exact ⟨k1, by rw [World.putObj_heap_other hne]; exact k2⟩
    · rw [World.putObj_heap_other (by omega)]
      exact ht.frame b hb hno
end
end Go.Rlm
end

section
namespace Go.Rlm
def exitOf : LExit → Exit
  | .normal => .normal
  | .exit id => .exit id
  | .ret => .ret
/-- What is asked of the end of a piece of code. -/
structure Aim (P : Program) (m : RMap) (L : LHeap) (w : World) (D : World → List Deferred → Prop) (N : Nat) (r : LR) (K : LK) (Q : Exit → Act → World → Prop) : Prop where
  go : ∀ e env' L' m' w' a', K e env' L' = some r → Rep P m' L' w' → ER m' env' a'.tmps → Tr m L w m' L' w' → D w' a'.defers → a'.tmps.size = N → Q (exitOf e) a' w'
  pan : ∀ v L' m' w' v' a', r = .pan v L' → VR m' v v' → Rep P m' L' w' → Tr m L w m' L' w' → D w' a'.defers → Q (.panic [{ v := v', recovered := false }]) a' w'
theorem Aim.trans {P : Program} {m : RMap} {L : LHeap} {w : World} {D : World → List Deferred → Prop} {N : Nat} {r : LR} {K : LK} {Q : Exit → Act → World → Prop} (h : Aim P m L w D N r K Q)
    {m1 : RMap} {L1 : LHeap} {w1 : World} (ht : Tr m L w m1 L1 w1) : Aim P m1 L1 w1 D N r K Q :=
  ⟨fun e env' L' m' w' a' h1 h2 h3 h4 => h.go e env' L' m' w' a' h1 h2 h3 (ht.trans h4), fun v L' m' w' v' a' h1 h2 h3 h4 => h.pan v L' m' w' v' a' h1 h2 h3 (ht.trans h4)⟩
theorem look_keep {env : Env} {t : Nat} {v : Value} : ∀ {ts : List Nat}, look (keep env ts) t = some v → look env t = some v
  | [], h => by cases h
  | s :: ts, h => by
    unfold keep at h
    split at h
    · rename_i u hu
      simp only [look, hif_eq, cond_eq_ite] at h
      split at h
      · rename_i hb
        rw [Nat.eq_of_beq_eq_true hb] at hu
        rw [hu]; exact h
      · exact look_keep h
    · exact look_keep h
theorem ER.keep {m : RMap} {env : Env} {tmps : Array Value} (h : ER m env tmps) (ts : List Nat) : ER m (Rlm.keep env ts) tmps := fun t v hv => h t v (look_keep hv)
theorem ER.trim {m : RMap} {env : Env} {tmps : Array Value} (h : ER m env tmps) (l : List Nat) : ER m (Rlm.trim l env) tmps := by
  cases l with
  | nil => exact h
  | cons x ts => exact h.keep ts
theorem mem_replicate_false {n k : Nat} : (Array.replicate n false)[k]? ≠ some true := by
  rw [Array.getElem?_replicate]
  split <;> simp
def okR (cf : Code) : Code → Prop
  | .seq a b | .cond _ a b => okR cf a ∧ okR cf b
  | .block _ b | .loop b | .scope b => okR cf b
  | .rangeFunc _ ps a b => rangeIn (firstRegion b) cf = some (ps, a, b)
  | _ => True
theorem okR_nil {cf : Code} : ∀ {c : Code}, rids c = [] → okR cf c := by
  intro c
  induction c with
  | seq a b iha ihb => intro h; simp only [rids, List.append_eq_nil_iff] at h; exact ⟨iha h.1, ihb h.2⟩
  | cond x a b iha ihb => intro h; simp only [rids, List.append_eq_nil_iff] at h; exact ⟨iha h.1, ihb h.2⟩
  | block id b ih => intro h; exact ih h
  | loop b ih => intro h; exact ih h
  | scope b ih => intro h; exact ih h
  | rangeFunc g ps a b => intro h; cases h
  | _ => intro _; trivial
theorem rangeIn_some {id : Nat} : ∀ {c : Code}, id ∈ rids c → (rangeIn id c).isSome = true := by
  intro c
  induction c with
  | seq a b iha ihb =>
    intro h
    simp only [rids, List.mem_append] at h
    unfold rangeIn
    split
    · rfl
    · rename_i hn
      rcases h with h | h
      · have := iha h; rw [hn] at this; cases this
      · exact ihb h
  | cond x a b iha ihb =>
    intro h
    simp only [rids, List.mem_append] at h
    unfold rangeIn
    split
    · rfl
    · rename_i hn
      rcases h with h | h
      · have := iha h; rw [hn] at this; cases this
      · exact ihb h
  | block id b ih => intro h; exact ih h
  | loop b ih => intro h; exact ih h
  | scope b ih => intro h; exact ih h
  | rangeFunc g ps a b =>
    intro h
    simp only [rids, List.mem_singleton] at h
    subst h
    simp [rangeIn]
  | _ => intro h; cases h
theorem rangeIn_none {id : Nat} : ∀ {c : Code}, id ∉ rids c → rangeIn id c = none := by
  intro c
  induction c with
  | seq a b iha ihb => intro h; simp only [rids, List.mem_append, not_or] at h; unfold rangeIn; rw [iha h.1, ihb h.2]
  | cond x a b iha ihb => intro h; simp only [rids, List.mem_append, not_or] at h; unfold rangeIn; rw [iha h.1, ihb h.2]
  | block id b ih => intro h; exact ih h
  | loop b ih => intro h; exact ih h
  | scope b ih => intro h; exact ih h
  | rangeFunc g ps a b =>
    intro h
    simp only [rids, List.mem_singleton] at h
    have : Nat.beq (firstRegion b) id = false := by
      cases hq : Nat.beq (firstRegion b) id with
      | false => rfl
      | true => exact absurd (Nat.eq_of_beq_eq_true hq).symm h
    simp [rangeIn, this]
  | _ => intro _; rfl
theorem distinct_nodup : ∀ {l : List Nat}, distinct l = true → l.Nodup
  | [], _ => List.nodup_nil
  | x :: xs, h => by
    simp only [distinct, Bool.and_eq_true, Bool.not_eq_true', List.any_eq_false] at h
    rw [List.nodup_cons]
    exact ⟨fun hx => by have := h.1 x hx; simp at this, distinct_nodup h.2⟩
theorem okR_sub : ∀ {c cf : Code}, (rids c).Nodup → (∀ id ∈ rids c, rangeIn id cf = rangeIn id c) → okR cf c := by
  intro c cf
  have two : ∀ {a b : Code}, (rids a ++ rids b).Nodup → (∀ id ∈ rids a ++ rids b, rangeIn id cf = (match rangeIn id a with | some x => some x | none => rangeIn id b)) →
      (∀ id ∈ rids a, rangeIn id cf = rangeIn id a) ∧ (∀ id ∈ rids b, rangeIn id cf = rangeIn id b) := fun {a b} hn h => by
    refine ⟨fun id hid => ?_, fun id hid => ?_⟩
    · rw [h id (by simp [hid])]
      have := rangeIn_some hid
      cases hq : rangeIn id a with
      | some x => rfl
      | none => rw [hq] at this; cases this
    · rw [h id (by simp [hid])]
      have hna : id ∉ rids a := fun ha => (List.nodup_append.1 hn).2.2 id ha id hid rfl
      rw [rangeIn_none hna]
  induction c with
  | seq a b iha ihb =>
    intro hn h
    obtain ⟨h1, h2⟩ := two hn h
    exact ⟨iha (List.nodup_append.1 hn).1 h1, ihb (List.nodup_append.1 hn).2.1 h2⟩
  | cond x a b iha ihb =>
    intro hn h
    obtain ⟨h1, h2⟩ := two hn h
    exact ⟨iha (List.nodup_append.1 hn).1 h1, ihb (List.nodup_append.1 hn).2.1 h2⟩
  | block id b ih => intro hn h; exact ih hn h
  | loop b ih => intro hn h; exact ih hn h
  | scope b ih => intro hn h; exact ih hn h
  | rangeFunc g ps a b =>
    intro hn h
    show rangeIn (firstRegion b) cf = some (ps, a, b)
    rw [h (firstRegion b) (by simp [rids])]
    simp [rangeIn]
  | _ => intro _ _; trivial
theorem stepR_scope {P : Program} {b : Frame} {a : Act} {k : List Item} {cs : List Frame} {w : World} {c : Code} : step P (lone (b.atR a (.code (.scope c) :: k)) cs w) = .next (lone (b.atR a (.code c :: .inScope c :: k)) cs w) :=
  step_lone_go (by simp [stepG, stepG.exec, Frame.atR])
theorem stepR_inScope {P : Program} {b : Frame} {a : Act} {k : List Item} {cs : List Frame} {w : World} {c : Code} : step P (lone (b.atR a (.inScope c :: k)) cs w) = .next (lone (b.atR a k) cs w) :=
  step_lone_go (by simp [stepG, stepG.exec, Frame.atR])
theorem wpIn_scope_straight {F : Fence} {n : Nat} {P : Program} {Q : Exit → Act → World → Prop} {a : Act} {w : World} {c : Code} (h : c.wpIn F n P (Exit.noGoto Q) a w) : (Code.scope c).wpIn F n P Q a w := by
  intro b k cs hro hb hr
  have h0 : (lone (b.atR a (.code (.scope c) :: k)) cs w).fenced P F := fenced_calm hb hr rfl
  obtain ⟨e, a₁, w₁, hq, harr⟩ := h b (.inScope c :: k) cs hro hb hr
  cases e with
  | normal => exact ⟨.normal, a₁, w₁, hq, .head h0 stepR_scope (StepsIn.trans harr (.one (fenced_calm hb hr rfl) stepR_inScope))⟩
  | exit id =>
    have hx : exitTo id (.inScope c :: k) = exitTo id k := by simp [exitTo]
    exact ⟨.exit id, a₁, w₁, hq, fun k' hk => .head h0 stepR_scope (harr.1 k' (by rw [hx]; exact hk)),
      fun hr' hk => let ⟨k₁, h1, h2⟩ := harr.2 hr' (by rw [hx]; exact hk); ⟨k₁, h1, .head h0 stepR_scope h2⟩⟩
  | goto l => exact hq.elim
  | ret => exact ⟨_, a₁, w₁, hq, .of_steps (.one h0 stepR_scope) harr⟩
  | panic ch => exact ⟨_, a₁, w₁, hq, .of_steps (.one h0 stepR_scope) harr⟩
  | outgrown => exact ⟨_, a₁, w₁, hq, .of_steps (.one h0 stepR_scope) harr⟩
theorem leftAs_iff : ∀ {es : List LExit} {e : LExit} {K : LExit → R} {r : LR}, leftAs es e K = some r → K e = some r
  | [], _, _, _, h => by cases h
  | x :: xs, e, K, r, h => by
    unfold leftAs lex at h
    cases hx : exitEq e x with
    | true => rw [hx, cond_true] at h; rw [exitEq_eq hx]; exact h
    | false => rw [hx, cond_false] at h; exact leftAs_iff h
section
variable {P : Program} {T : Nat → List Nat} {f : FuncId} {N : Nat} {call : Caller} {n : Nat} {r : LR} {ro : Option Nat} {nn B : Nat} {cf : Code} {D : World → List Deferred → Prop}
theorem region_open (hDt : ∀ {m : RMap} {L : LHeap} {w : World} {m' : RMap} {L' : LHeap} {w' : World} {ds : List Deferred}, D w ds → Rep P m L w → Tr m L w m' L' w' → D w' ds) (hm : P.follows .mixedOrders = true) {G : Keep} (hc : CallOk G P call) {id : Nat} {ops : Array Oper} {K : LK} {Q : Exit → Act → World → Prop} {env : Env} {L : LHeap} {m : RMap} {w : World} {a : Act}
    (hd : dstOk N ops.toList = true) (ho : ordered ops.toList (befores ops.toList []) = true) (h : ldraw P call ops.toList (befores ops.toList []) (twoMakes ops.toList (befores ops.toList [])) 0 ops.toList env L [] [] (K .normal) = some r)
    (hr : Rep P m L w) (hg : G.ok m L w) (he : ER m env a.tmps) (hN : a.tmps.size = N) (hD : D w a.defers) (hA : Aim P m L w D N r K Q) : (Code.region id ops true).wpIn (fence ro) nn P Q a w := by
  obtain ⟨tr, e', L', h1, h2⟩ := ldraw_trc ops.toList 0 env L [] [] (fun _ _ h => by cases h) h
  have hS : Setting P call ops tr env L e' L' := ⟨h1, ho⟩
  refine wpIn_region_any hm ?_
  refine any_ok (m0 := m) (w0 := w) (ds := a.defers) hc hg hS hd (fun m' w' a' k1 k2 k3 k4 k5 => hA.go .normal e' L' m' w' a' h2 k1 k3 k2 (by rw [k4]; exact hDt hD hr k2) k5) ops.size _ a _ ?_ ?_
  · refine ⟨by simp, fun j i hj => absurd hj mem_replicate_false, ⟨m, 0, Nat.zero_le _, fun q rc hq => by omega, fun q rc _ hq _ => ?_, ?_, ?_, fun t i rc o _ _ hl => absurd hl mem_replicate_false, fun t _ v hv => he t v hv⟩, rfl, hN⟩
    · have := (List.getElem?_eq_some_iff.1 hq).1
      rw [hS.len] at this
      rw [Array.getElem?_replicate, if_pos this]
    · rw [hS.start.2]; exact hr.drew _
    · rw [hS.start.2]; exact (Tr.refl m L w).drew
  · rw [Array.toList_replicate, List.count_replicate]
    simp
theorem lloop_ok {b : Code} {G : Keep}
    (hb : ∀ (K : LK) (Q : Exit → Act → World → Prop) (env : Env) (L : LHeap) (m : RMap) (w : World) (a : Act), lexec P T f N call n b K env L = some r → Rep P m L w → G.ok m L w → ER m env a.tmps → a.tmps.size = N → D w a.defers → B ≤ w.heap.size → Aim P m L w D N r K Q → b.wpIn (fence ro) nn P Q a w)
    {K : LK} {Q : Exit → Act → World → Prop} {lv : List Nat} : ∀ (k : Nat) (env : Env) (L : LHeap) (m : RMap) (w : World) (a : Act), lloop (lexec P T f N call n b) lv K k env L = some r → Rep P m L w → G.ok m L w → ER m env a.tmps → a.tmps.size = N → D w a.defers → B ≤ w.heap.size →
      Aim P m L w D N r K Q → Code.roundsIn (fence ro) nn P b Q k a w
  | 0, env, L, m, w, a, h, _, _, _, _, _, _, _ => by cases h
  | k + 1, env, L, m, w, a, h, hr, hg, he, hN, hD, hB, hA => by
    rw [roundsIn_succ]
    refine hb _ _ env L m w a h hr hg he hN hD hB ⟨fun e env' L' m' w' a' h1 h2 h3 h4 h5 h6 => ?_, fun v L' m' w' v' a' h1 h2 h3 h4 h5 => hA.pan v L' m' w' v' a' h1 h2 h3 h4 h5⟩
    cases e with
    | normal => exact lloop_ok hb k _ L' m' w' a' h1 h2 (hg.tr h4) (h3.keep lv) h6 h5 (Nat.le_trans hB h4.size) (hA.trans h4)
    | exit id => exact hA.go (.exit id) env' L' m' w' a' h1 h2 h3 h4 h5 h6
    | ret => exact hA.go .ret env' L' m' w' a' h1 h2 h3 h4 h5 h6
/-- **The model follows the machine.** -/
theorem lexec_ok (hDt : ∀ {m : RMap} {L : LHeap} {w : World} {m' : RMap} {L' : LHeap} {w' : World} {ds : List Deferred}, D w ds → Rep P m L w → Tr m L w m' L' w' → D w' ds) (hm : P.follows .mixedOrders = true) {G : Keep} (hc : CallOk G P call) (hcf : ∃ fn, P.funcs[f]? = some fn ∧ fn.body = some cf ∧ fn.ntmps = N) (c : Code) : okR cf c → (rids c = [] ∨ (ro = none ∧ D = fun w ds => DOk w B ds)) →
    ∀ (K : LK) (Q : Exit → Act → World → Prop) (env : Env) (L : LHeap) (m : RMap) (w : World) (a : Act),
    lexec P T f N call n c K env L = some r → Rep P m L w → G.ok m L w → ER m env a.tmps → a.tmps.size = N → D w a.defers → B ≤ w.heap.size → Aim P m L w D N r K Q → c.wpIn (fence ro) nn P Q a w := by
  induction c with
  | skip => exact fun _ _ K Q env L m w a h hr hg he hN hD hB hA => wpIn_skip (hA.go .normal env L m w a h hr he (.refl m L w) hD hN)
  | region id ops draw =>
    intro _ _ K Q env L m w a h hr hg he hN hD hB hA
    have h : lregion P call N ops draw K (trim (T (CB + id)) env) L = some r := lreg_some (id := id) (l := T (CB + id)) (n := n) (F := fun env L => lregion P call N ops draw K env L) h
    unfold lregion at h
    have he := he.trim (T (CB + id))
    generalize trim (T (CB + id)) env = env at h he
    rw [cond_iff] at h
    obtain ⟨hd, h⟩ := h
    cases draw with
    | true =>
      rw [hif_true, cond_iff] at h
      exact region_open (D := D) hDt hm hc hd h.1 h.2 hr hg he hN hD hA
    | false =>
      rw [hif_false] at h
      exact wpIn_region_list (lrun_ok hc ops.toList 0 env L m w a h hd hr hg he hN ⟨fun env' L' m' w' a' k1 k2 k3 k4 k5 k6 => hA.go .normal env' L' m' w' a' k1 k2 k3 k4 (by rw [k5]; exact hDt hD hr k4) k6,
        fun v L' m' w' v' a' k1 k2 k3 k4 k5 => hA.pan v L' m' w' v' a' k1 k2 k3 k4 (by rw [k5]; exact hDt hD hr k4)⟩)
  | seq x y ihx ihy =>
    intro hok hro K Q env L m w a h hr hg he hN hD hB hA
    have hro1 := hro.imp_left fun h => (List.append_eq_nil_iff.1 h).1
    have hro2 := hro.imp_left fun h => (List.append_eq_nil_iff.1 h).2
    refine wpIn_seq (ihx hok.1 hro1 _ _ env L m w a h hr hg he hN hD hB ⟨fun e env' L' m' w' a' h1 h2 h3 h4 h5 h6 => ?_, fun v L' m' w' v' a' h1 h2 h3 h4 h5 => hA.pan v L' m' w' v' a' h1 h2 h3 h4 h5⟩)
    cases e with
    | normal => exact ihy hok.2 hro2 K Q env' L' m' w' a' h1 h2 (hg.tr h4) h3 h6 h5 (Nat.le_trans hB h4.size) (hA.trans h4)
    | exit id => exact hA.go (.exit id) env' L' m' w' a' h1 h2 h3 h4 h5 h6
    | ret => exact hA.go .ret env' L' m' w' a' h1 h2 h3 h4 h5 h6
  | cond x c1 c2 ih1 ih2 =>
    intro hok hro K Q env L m w a h hr hg he hN hD hB hA
    have hro1 := hro.imp_left fun h => (List.append_eq_nil_iff.1 h).1
    have hro2 := hro.imp_left fun h => (List.append_eq_nil_iff.1 h).2
    have h : (ev env x fun v => match v with
      | .bool t => lif t (lexec P T f N call n c1 K env L) (lexec P T f N call n c2 K env L)
      | _ => none) = some r := h
    rw [ev_eq, obind_iff] at h
    obtain ⟨v, h1, h2⟩ := h
    split at h2
    case h_2 => cases h2
    have hv := (he.eval h1).of_bool
    rw [lif_iff] at h2
    rcases h2 with ⟨rfl, h2⟩ | ⟨rfl, h2⟩
    · exact wpIn_cond_true hv (ih1 hok.1 hro1 K Q env L m w a h2 hr hg he hN hD hB hA)
    · exact wpIn_cond_false hv (ih2 hok.2 hro2 K Q env L m w a h2 hr hg he hN hD hB hA)
  | block id b ih =>
    intro hok hro K Q env L m w a h hr hg he hN hD hB hA
    refine wpIn_block (ih hok hro _ _ env L m w a h hr hg he hN hD hB ⟨fun e env' L' m' w' a' h1 h2 h3 h4 h5 h6 => ?_, fun v L' m' w' v' a' h1 h2 h3 h4 h5 => hA.pan v L' m' w' v' a' h1 h2 h3 h4 h5⟩)
    cases e with
    | normal => exact hA.go .normal env' L' m' w' a' h1 h2 h3 h4 h5 h6
    | exit id' =>
      simp only [exitOf, Exit.inBlock]
      have h1 : (hif (Nat.beq id' id) (K .normal env' L') (K (.exit id') env' L')) = some r := h1
      split
      · rename_i hid
        rw [hid, Nat.beq_refl, hif_true] at h1
        exact hA.go .normal env' L' m' w' a' h1 h2 h3 h4 h5 h6
      · rename_i hid
        have : Nat.beq id' id = false := by
          cases hq : Nat.beq id' id with
          | false => rfl
          | true => exact absurd (Nat.eq_of_beq_eq_true hq) hid
        rw [this, hif_false] at h1
        exact hA.go (.exit id') env' L' m' w' a' h1 h2 h3 h4 h5 h6
    | ret => exact hA.go .ret env' L' m' w' a' h1 h2 h3 h4 h5 h6
  | loop b ih =>
    intro hok hro K Q env L m w a h hr hg he hN hD hB hA
    exact wpIn_loop_rounds n (lloop_ok (ih hok hro) n _ L m w a h hr hg (he.keep _) hN hD hB hA)
  | rangeFunc g ps x b _ _ =>
    intro hok hro K Q env L m w a h hr hg he hN hD hB hA
    have hro : ro = none ∧ D = fun w ds => DOk w B ds := by
      rcases hro with h | h
      · cases h
      · exact h
    obtain ⟨hro, hDD⟩ := hro
    subst hro
    subst hDD
    have h : (ev env g fun gv => lbindR (lappF call gv [.func (.yield L.length) #[] #[]] (L ++ [.loop f (firstRegion b) (keep env (T (firstRegion b))) .ready])) fun _ L2 =>
      lend L.length L2 (fun L3 => K .normal env L3) (fun e L3 => leftAs (exitsOnce (exitsOf b [])) e fun e => K e env L3)) = some r := h
    rw [ev_eq, obind_iff] at h
    obtain ⟨gv, h1, h⟩ := h
    have hgv := he.eval h1
    unfold lappF at h
    split at h
    case h_2 => cases h
    rename_i gf az bs
    cases hgb : Nat.blt gf YB with
    | false => rw [hgb] at h; cases h
    | true =>
    rw [hgb, hif_true] at h
    have hgy : gf < YB := by simpa using hgb
    obtain ⟨as', bs', hfv, has, hbs⟩ := hgv.of_func
    obtain ⟨fn, g1, g2, g3⟩ := hcf
    refine wpIn_rangeFunc fun fn' _ => ?_
    generalize hlp : ({ state := .ready, pending := none, fn := fn', tmps := a.tmps, params := ps, assign := x, body := b, defers := w.heap.size } : Loop) = lp
    have hrel : LoopRel P m f (firstRegion b) (keep env (T (firstRegion b))) .ready lp := by
      subst hlp
      exact ⟨⟨fn, cf, g1, g2, hok, by show a.tmps.size = fn.ntmps; rw [hN, g3]⟩, he.keep _, rfl, rfl⟩
    obtain ⟨hr1, ht1⟩ := hr.pushLoop hrel
    have hm1 : ins m L.length ⟨w.heap.size + 1, 0, 0, 0⟩ L.length = some ⟨w.heap.size + 1, 0, 0, 0⟩ := by unfold Rlm.ins; rw [if_pos rfl]
    have hD1 : DOk ((w.alloc (.deferred (some []))).alloc (.loop lp)) B (mark w.heap.size :: a.defers) := by
      obtain ⟨ks, d1, d2, d3⟩ := hD
      have hheap : ((w.alloc (.deferred (some []))).alloc (.loop lp)).heap = (w.heap.push (.deferred (some []))).push (.loop lp) := rfl
      refine ⟨w.heap.size :: ks, by rw [d1]; rfl, List.nodup_cons.2 ⟨fun hk => ?_, d2⟩, fun k hk => ?_⟩
      · have := (Array.getElem?_eq_some_iff.1 (d3 _ hk).2).1
        omega
      · rcases List.mem_cons.1 hk with rfl | hk
        · exact ⟨hB, by rw [hheap, Array.getElem?_push, if_neg (by simp), Array.getElem?_push, if_pos rfl]⟩
        · obtain ⟨k1, k2⟩ := d3 k hk
          have := (Array.getElem?_eq_some_iff.1 k2).1
          exact ⟨k1, by rw [hheap, Array.getElem?_push, if_neg (by simp; omega), Array.getElem?_push, if_neg (by omega)]; exact k2⟩
    have hargs : VRs (ins m L.length ⟨w.heap.size + 1, 0, 0, 0⟩) (az.toList ++ [.func (.yield L.length) #[] #[]] ++ bs.toList) (as'.toList ++ [.func (.yield (w.heap.size + 1)) #[] #[]] ++ bs'.toList) :=
      ((has.mono ht1.ext).append (.cons (.yield hm1) .nil)).append (hbs.mono ht1.ext)
    cases hcall : call gf (az.toList ++ [.func (.yield L.length) #[] #[]] ++ bs.toList) (L ++ [.loop f (firstRegion b) (keep env (T (firstRegion b))) .ready]) with
    | none => rw [hcall] at h; cases h
    | some r0 =>
      rw [hcall] at h
      obtain ⟨r1, hreal, h, hng⟩ := lbindR_real h
      rcases hc.calls gf _ _ r0 r1 hgy hcall hreal with ⟨hcalls, hent⟩ | ⟨hno, _⟩
      case inr => exact absurd rfl (hno (.func (.yield L.length) #[] #[]) (by simp) _ _ _)
      replace hent := hent ⟨as'.toList ++ [.func (.yield (w.heap.size + 1)) #[] #[]] ++ bs'.toList⟩ ((w.alloc (.deferred (some []))).alloc (.loop lp))
      refine ⟨w.heap.size + 1, [mark w.heap.size], (w.alloc (.deferred (some []))).alloc (.loop lp), { target := .fn (.func gf) bs', args := as' ++ #[.func (.yield (w.heap.size + 1)) #[] #[]] },
        (w.alloc (.deferred (some []))).alloc (.loop lp), gf, ⟨as'.toList ++ [.func (.yield (w.heap.size + 1)) #[] #[]] ++ bs'.toList⟩, (w.alloc (.deferred (some []))).alloc (.loop lp), ?_, ?_, fun _ _ => trivial, ?_, fun h => (by cases h), ?_⟩
      · subst hlp
        exact run_enterLoop_outer fn' a.tmps ps x b
      · have e : (#[Operand.const (.func (.yield (w.heap.size + 1)) #[] #[])] : Array Operand).map a.eval = #[.func (.yield (w.heap.size + 1)) #[] #[]] := by simp [Act.eval]
        simp only [resolve, rangeCall, e, hfv, Deferred.ofValue, Sem.run_pure]
      · have e : (as' ++ #[.func (.yield (w.heap.size + 1)) #[] #[]] ++ bs' : Array Value) = ⟨as'.toList ++ [.func (.yield (w.heap.size + 1)) #[] #[]] ++ bs'.toList⟩ := by apply Array.ext'; simp
        simp only [invoke, e]
        exact hent
      · refine (callsW (hcalls _ _ _ hr1 (hg.tr ht1) hargs)).mono fun e w2 hE => ?_
        cases r1 with
        | pan v L2 => cases h
        | gate b v L2 => cases hng
        | alt g b v L2 u L3 => cases hng
        | ret v L2 =>
          obtain ⟨m2, v', rfl, _, hr2, ht2⟩ := hE
          simp only [lbindR_ret] at h
          have hi2 := ht2.ext _ _ hm1
          have hback : ∀ (lp2 : Loop), Rep P m2 (L2.set L.length .dead) (w2.putObj (w.heap.size + 1) (.loop lp2)) → Tr m2 L2 w2 m2 (L2.set L.length .dead) (w2.putObj (w.heap.size + 1) (.loop lp2)) → ∀ e, K e env (L2.set L.length .dead) = some r →
              Q (exitOf e) { a with defers := [mark w.heap.size] ++ a.defers } (w2.putObj (w.heap.size + 1) (.loop lp2)) := fun lp2 hr3 ht3 e hK =>
            hA.go e env _ m2 _ _ hK hr3 (he.mono (ht1.ext.trans ht2.ext)) ((ht1.trans ht2).trans ht3) ((hD1.tr hr1 ht2).tr hr2 ht3) hN
          unfold lend at h
          split at h
          · rename_i f2 id2 env2 hj
            obtain ⟨lp2, k1, k2⟩ := hr2.blk_loop hj hi2
            have hst : lp2.state = .ready ∧ lp2.pending = none := k2.st
            obtain ⟨hr3, ht3⟩ := hr2.setLoop hj hi2 .dead { lp2 with state := .exhausted } (fun _ _ _ _ h => by cases h) (fun _ _ h => by cases h) (fun _ _ _ _ h => by cases h)
            refine ⟨none, _, by rw [← hst.2]; exact run_endLoop k1 (by rw [hst.1]; intro h; cases h), ?_⟩
            exact hback _ hr3 ht3 .normal h
          · rename_i f2 id2 env2 e2 hj
            obtain ⟨lp2, k1, k2⟩ := hr2.blk_loop hj hi2
            have hst : lp2.state = .done ∧ lp2.pending = some (codeOf e2) := k2.st
            obtain ⟨hr3, ht3⟩ := hr2.setLoop hj hi2 .dead { lp2 with state := .exhausted } (fun _ _ _ _ h => by cases h) (fun _ _ h => by cases h) (fun _ _ _ _ h => by cases h)
            refine ⟨some (codeOf e2), _, by rw [← hst.2]; exact run_endLoop k1 (by rw [hst.1]; intro h; cases h), ?_⟩
            have hq := hback _ hr3 ht3 e2 (leftAs_iff h)
            cases e2 with
            | normal => exact wpIn_skip hq
            | exit id => exact wpIn_exit hq
            | ret => exact wpIn_ret hq
          · cases h
  | exit id => exact fun _ _ K Q env L m w a h hr hg he hN hD hB hA => wpIn_exit (hA.go (.exit id) env L m w a h hr he (.refl m L w) hD hN)
  | scope b ih =>
    intro hok hro K Q env L m w a h hr hg he hN hD hB hA
    refine wpIn_scope_straight (ih hok hro K _ env L m w a h hr hg he hN hD hB ⟨fun e env' L' m' w' a' h1 h2 h3 h4 h5 h6 => ?_, fun v L' m' w' v' a' h1 h2 h3 h4 h5 => hA.pan v L' m' w' v' a' h1 h2 h3 h4 h5⟩)
    have := hA.go e env' L' m' w' a' h1 h2 h3 h4 h5 h6
    cases e <;> exact this
  | label l => exact fun _ _ K Q env L m w a h hr hg he hN hD hB hA => wpIn_label (hA.go .normal env L m w a h hr he (.refl m L w) hD hN)
  | goto l => intro _ _ K Q env L m w a h; cases h
  | ret => exact fun _ _ K Q env L m w a h hr hg he hN hD hB hA => wpIn_ret (hA.go .ret env L m w a h hr he (.refl m L w) hD hN)
  | refuse s => intro _ _ K Q env L m w a h; cases h
end
def resAt (tmps : Array Value) : ResultVar → Sem Value
  | .tmp t => pure (tmps.getD t undef)
  | .cell a t => do loadVar t (← asAddr (tmps.getD a undef))
theorem lresults_ok {P : Program} {env : Env} {L : LHeap} {r : LR} {m : RMap} {w : World} {tmps : Array Value} (hr : Rep P m L w) (he : ER m env tmps) : ∀ (rs : List ResultVar) (K : List Value → R), lresults P env L rs K = some r →
    ∃ vs vs', K vs = some r ∧ VRs m vs vs' ∧ (rs.mapM (resAt tmps)).run P w = .ok vs' w
  | [], K, h => ⟨[], [], h, .nil, by simp⟩
  | .tmp t :: rs, K, h => by
    unfold lresults at h
    rw [ev_eq, obind_iff] at h
    obtain ⟨v, h1, h2⟩ := h
    obtain ⟨v', h3, h4⟩ := he t v h1
    obtain ⟨vs, vs', k1, k2, k3⟩ := lresults_ok hr he rs _ h2
    refine ⟨v :: vs, v' :: vs', k1, .cons h4 k2, ?_⟩
    have : tmps.getD t undef = v' := by simp [Array.getD_eq_getD_getElem?, h3]
    simp [List.mapM_cons, resAt, this, k3]
  | .cell t ty :: rs, K, h => by
    unfold lresults at h
    rw [ev_eq, obind_iff] at h
    obtain ⟨v, h1, h2⟩ := h
    split at h2
    case h_2 => cases h2
    obtain ⟨p, h3, h4⟩ := he t _ h1
    obtain ⟨i, hi, hp⟩ := h4.of_ptr
    obtain ⟨u, k1, _, k3⟩ := loadT_ok h2
    obtain ⟨u', k4, k5⟩ := k3 m w i hr hi
    obtain ⟨vs, vs', k6, k7, k8⟩ := lresults_ok hr he rs _ k1
    refine ⟨u :: vs, u' :: vs', k6, .cons k5 k7, ?_⟩
    have : tmps.getD t undef = p := by simp [Array.getD_eq_getD_getElem?, h3]
    simp [List.mapM_cons, resAt, this, hp, asAddr, k4, k8]
theorem results_eq (fn : Func) (tmps : Array Value) : results fn tmps = fn.results.mapM (resAt tmps) >>= fun vs => Pure.pure (if h : vs.size = 1 then vs[0] else .tuple vs) := by
  unfold results
  congr 2
theorem run_results {P : Program} {fn : Func} {tmps : Array Value} {w : World} {vs : List Value} (h : (fn.results.toList.mapM (resAt tmps)).run P w = .ok vs w) :
    (results fn tmps).run P w = .ok (match vs with | [v] => v | vs => .tuple vs.toArray) w := by
  rw [results_eq, Array.mapM_eq_mapM_toList]
  simp only [Sem.run_bind, Sem.run_map, h, Result.andThen_ok]
  match vs with
  | [] => simp
  | [v] => simp
  | a :: b :: l => simp
theorem look_enum {t : Nat} {v : Value} : ∀ {args : List Value} {i : Nat}, look (enum args i) t = some v → i ≤ t ∧ args[t - i]? = some v
  | [], _, h => by cases h
  | x :: xs, i, h => by
    unfold enum at h
    simp only [look, hif_eq, cond_eq_ite] at h
    split at h
    · rename_i hb
      rw [← Nat.eq_of_beq_eq_true hb, Nat.sub_self]
      exact ⟨Nat.le_refl _, h⟩
    · obtain ⟨h1, h2⟩ := look_enum h
      refine ⟨by omega, ?_⟩
      rw [show t - i = t - (i + 1) + 1 by omega]
      simpa using h2
/-- What is asked of one answer of the table. -/
def AnsOk (G : Keep) (P : Program) (f : Nat) (args : List Value) (L : LHeap) (r : LR) : Prop :=
  ((∃ fn c, P.funcs[f]? = some fn ∧ fn.body = some c) ∧ ∀ (m : RMap) (w : World) (args' : List Value), Rep P m L w → G.ok m L w → VRs m args args' → Calls P f ⟨args'⟩ w (Ends P m L w r)) ∨ ExtOk P f args L r
/-- What is asked of the functions that are not stepped through. -/
structure SpecOk (G : Keep) (P : Program) (T : Tab) : Prop where
  both : ∀ f g, T.spec f = some g → f < YB → ∀ call, CallOk G P call → ∀ args L r0 r, g call args L = some r0 → r0.real = some r → AnsOk G P f args L r
  pures : ∀ f g, T.pure f = some g → f < YB ∧ ∀ args L r0 r, g args L = some r0 → r0.real = some r → AnsOk G P f args L r
theorem SpecOk.of {G : Keep} {P : Program} {k : Nat → Nat → List Nat} {sp : FuncId → Option Spec} (there : ∀ f g, sp f = some g → f < YB → ∃ fn c, P.funcs[f]? = some fn ∧ fn.body = some c)
    (calls : ∀ f g, sp f = some g → ∀ call, CallOk G P call → ∀ args L r0 r, g call args L = some r0 → r0.real = some r → ∀ (m : RMap) (w : World) (args' : List Value), Rep P m L w → VRs m args args' →
      Calls P f ⟨args'⟩ w (Ends P m L w r)) : SpecOk G P ⟨k, sp, fun _ => none⟩ :=
  ⟨fun f g hg hf call hc args L r0 r h h' => .inl ⟨there f g hg hf, fun m w args' hr _ hv => calls f g hg call hc args L r0 r h h' m w args' hr hv⟩, fun _ _ h => (by cases h)⟩
theorem SpecOk.none {G : Keep} {P : Program} {k : Nat → Nat → List Nat} : SpecOk G P ⟨k, fun _ => .none, fun _ => .none⟩ := ⟨fun _ _ h => (by cases h), fun _ _ h => (by cases h)⟩
theorem enters_any {P : Program} (hn : P.funcs.all (fun fn => !(fn.name == "runtime.NumGoroutine")) = true) {f : Nat} {fn : Func} {c : Code} (hf : P.funcs[f]? = some fn) (hb : fn.body = some c) (args : List Value) (w : World) :
    (callFunc f ⟨args⟩).run P w = .ok (.enter f ⟨args⟩) w := by
  have hname : (fn.name == "runtime.NumGoroutine") = false := by
    have hlt := (Array.getElem?_eq_some_iff.1 hf)
    have := Array.all_eq_true.1 hn f hlt.1
    rw [hlt.2] at this
    simpa using this
  have hname2 : ¬ fn.name = "runtime.NumGoroutine" := by simpa using hname
  simp [callFunc, hf, hname2, hb]
/-- A round's arguments. -/
theorem ER.putAll {m : RMap} : ∀ {ps : List Nat} {vs vs' : List Value} {env : Env} {tmps : Array Value}, ER m env tmps → VRs m vs vs' → (∀ t ∈ ps, t < tmps.size) →
    ER m (Rlm.putAll env ps vs) ((ps.zip vs').foldl (fun tmps (p : Nat × Value) => tmps.setIfInBounds p.1 p.2) tmps) ∧ ((ps.zip vs').foldl (fun tmps (p : Nat × Value) => tmps.setIfInBounds p.1 p.2) tmps).size = tmps.size
  | [], vs, vs', env, tmps, he, hv, hp => by
    have : Rlm.putAll env [] vs = env := by cases vs <;> rfl
    rw [this]; exact ⟨he, rfl⟩
  | t :: ps, [], _, env, tmps, he, .nil, hp => ⟨he, rfl⟩
  | t :: ps, v :: vs, _, env, tmps, he, .cons (v' := v') h hs, hp => by
    have h1 : ER m ((t, v) :: env) (tmps.setIfInBounds t v') := by
      intro q u hu
      simp only [look, cond_eq_ite] at hu
      split at hu
      · rename_i hb
        have := Nat.eq_of_beq_eq_true hb
        subst this
        injection hu with hu
        subst hu
        exact ⟨v', by simp [hp t (by simp)], h⟩
      · rename_i hb
        have hne : t ≠ q := fun e => hb (by rw [e]; exact Nat.beq_refl q)
        obtain ⟨x, g1, g2⟩ := he q u hu
        exact ⟨x, by rw [Array.getElem?_setIfInBounds_ne hne]; exact g1, g2⟩
    obtain ⟨g1, g2⟩ := ER.putAll (ps := ps) h1 hs (fun q hq => by simpa using hp q (by simp [hq]))
    exact ⟨g1, by rw [List.zip_cons_cons, List.foldl_cons, g2]; simp⟩
theorem ready_ok {P : Program} {m : RMap} {L : LHeap} {w : World} {j : Nat} {i : Info} {K : LHeap → R} {r : LR} (hr : Rep P m L w) (hi : m j = some i) (h : lbusy j L K = some r) :
    ∃ L1 w1, (Instr.beginRound i.blk).run P w = .ok () w1 ∧ K L1 = some r ∧ Rep P m L1 w1 ∧ Tr m L w m L1 w1 := by
  unfold lbusy at h
  split at h
  case h_2 => cases h
  rename_i f id env hj
  obtain ⟨lp, k1, k2⟩ := hr.blk_loop hj hi
  obtain ⟨hr3, ht3⟩ := hr.setLoop hj hi (.loop f id env .busy) { lp with state := .busy } (fun _ _ _ _ h => by cases h) (fun _ _ h => by cases h) (fun f' id' env' st' h => by
    injection h with e1 e2 e3 e4
    subst e1; subst e2; subst e3; subst e4
    exact ⟨k2.code, k2.env, rfl⟩)
  exact ⟨_, _, run_beginRound k1 k2.st.1, h, hr3, ht3⟩
theorem leave_ok {P : Program} {m : RMap} {L : LHeap} {w : World} {j : Nat} {i : Info} {e : LExit} {r : LR} (hr : Rep P m L w) (hi : m j = some i) (h : lleave j e L = some r) :
    ∃ b L1 w1, r = .ret (.bool b) L1 ∧ (Instr.endRound i.blk (match e with | .normal => none | e => some (codeOf e))).run P w = .ok (.bool b) w1 ∧ Rep P m L1 w1 ∧ Tr m L w m L1 w1 := by
  unfold lleave at h
  split at h
  case h_2 => cases h
  rename_i f id env hj
  obtain ⟨lp, k1, k2⟩ := hr.blk_loop hj hi
  have key : ∀ (st : LSt) (b : Bool) (jump : Option Code), jump.isNone = b → StRel st { lp with state := if jump.isNone then .ready else .done, pending := jump } → some (LR.ret (.bool b) (L.set j (.loop f id env st))) = some r →
      ∃ b L1 w1, r = .ret (.bool b) L1 ∧ (Instr.endRound i.blk jump).run P w = .ok (.bool b) w1 ∧ Rep P m L1 w1 ∧ Tr m L w m L1 w1 := fun st b jump hj2 hst h => by
    obtain ⟨hr3, ht3⟩ := hr.setLoop hj hi (.loop f id env st) { lp with state := if jump.isNone then .ready else .done, pending := jump } (fun _ _ _ _ h => by cases h) (fun _ _ h => by cases h) (fun f' id' env' st' h => by
      injection h with e1 e2 e3 e4
      subst e1; subst e2; subst e3; subst e4
      exact ⟨k2.code, k2.env, hst⟩)
    injection h with h
    exact ⟨b, _, _, h.symm, by rw [← hj2]; exact run_endRound jump k1, hr3, ht3⟩
  cases e with
  | normal => exact key .ready true none rfl ⟨rfl, rfl⟩ h
  | exit id' => exact key (.left (.exit id')) false (some (.exit id')) rfl ⟨rfl, rfl⟩ h
  | ret => exact key (.left .ret) false (some .ret) rfl ⟨rfl, rfl⟩ h
theorem lround_ok {P : Program} {T : Tab} {call : Caller} {n : Nat} (hm : P.follows .mixedOrders = true) {G : Keep} (hc : CallOk G P call) {f id j : Nat} {env : Env} {args args' : List Value} {L : LHeap} {r0 r : LR}
    (h : lround P T call n f id env j args L = some r0) (hnp : ∀ v L', r0 ≠ .pan v L') (hreal : r0.real = some r) {m : RMap} {w : World} (hr : Rep P m L w) (hg : G.ok m L w) (hv : VRs m args args') {i : Info} (hi : m j = some i) {lp : Loop} (hlp : w.heap[i.blk]? = some (.loop lp))
    (hrel : LoopRel P m f id env .ready lp) (ro : Option Nat) (nn : Nat) :
    ∃ fn tmps assign body, (Instr.yield i.blk ⟨args'⟩).run P w = .ok (.round i.blk fn tmps assign body) w ∧ RoundIn (fence ro) nn P i.blk fn tmps assign body w (Ends P m L w r) := by
  unfold lround at h
  split at h
  case h_2 => cases h
  rename_i fn hf
  split at h
  case h_2 => cases h
  rename_i c hb
  split at h
  case h_2 => cases h
  rename_i ps x b hrange
  rw [cond_iff] at h
  obtain ⟨hl, h⟩ := h
  simp only [Bool.and_eq_true, List.all_eq_true] at hl
  obtain ⟨⟨⟨hlen, hps⟩, hx⟩, hbb⟩ := hl
  have hlen := Nat.eq_of_beq_eq_true hlen
  have hx : rids x = [] := by simpa using hx
  have hbb : rids b = [] := by simpa using hbb
  obtain ⟨fn0, c0, q1, q2, q3, q4⟩ := hrel.code
  rw [hf] at q1; injection q1 with q1; subst q1
  rw [hb] at q2; injection q2 with q2; subst q2
  rw [hrange] at q3; injection q3 with q3; injection q3 with e1 q3; injection q3 with e2 e3
  have hasz : (⟨args'⟩ : Array Value).size = lp.params.size := by
    have := hv.length
    rw [← e1]
    simp; omega
  refine ⟨_, _, _, _, run_yield hlp hasz, ?_⟩
  obtain ⟨hE1, hE2⟩ := hrel.env.putAll (ps := ps.toList) hv (fun t ht => by
    have := hps t ht
    rw [q4]
    simpa using this)
  have hfold : (lp.params.zip ⟨args'⟩).foldl (fun tmps (t, a) => tmps.setIfInBounds t a) lp.tmps = (ps.toList.zip args').foldl (fun tmps (p : Nat × Value) => tmps.setIfInBounds p.1 p.2) lp.tmps := by
    rw [← e1, ← Array.foldl_toList, Array.toList_zip]
  rw [hfold, ← e2, ← e3]
  refine roundIn_of_wpIn (F := fence ro) trivial ?_
  refine lexec_ok (D := fun _ _ => True) (ro := some i.blk) (B := 0) (cf := c) (fun _ _ _ => trivial) hm hc ⟨fn, hf, hb, rfl⟩ x (okR_nil hx) (.inl hx) _ _ _ L m w _ h hr hg hE1 (by rw [← q4]; exact hE2) trivial (Nat.zero_le _) ⟨fun e env1 L1 m1 w1 a1 k1 k2 k3 k4 _ k6 => ?_, fun v L' m' w' v' a' h1 => absurd h1 (hnp v L')⟩
  cases e with
  | exit id => cases k1
  | ret => cases k1
  | normal =>
    have hi1 := k4.ext _ _ hi
    obtain ⟨L2, w2, g1, g2, g3, g4⟩ := ready_ok k2 hi1 k1
    refine ⟨w2, g1, ?_⟩
    refine lexec_ok (D := fun _ _ => True) (ro := some i.blk) (B := 0) (cf := c) (fun _ _ _ => trivial) hm hc ⟨fn, hf, hb, rfl⟩ b (okR_nil hbb) (.inl hbb) _ _ _ L2 m1 w2 a1 g2 g3 ((hg.tr k4).tr g4) k3 k6 trivial (Nat.zero_le _) ⟨fun e env3 L3 m3 w3 a3 p1 p2 p3 p4 _ p6 => ?_, fun v L' m' w' v' a' h1 => absurd h1 (hnp v L')⟩
    have hi3 := p4.ext _ _ hi1
    obtain ⟨bb, L4, w4, s1, s2, s3, s4⟩ := leave_ok p2 hi3 p1
    rw [s1] at hreal
    injection hreal with hreal
    have hend : Ends P m L w r (.returned (.bool bb)) w4 := by rw [← hreal]; exact ⟨m3, _, rfl, .flat1 rfl, s3, ((k4.trans g4).trans p4).trans s4⟩
    cases e with
    | normal => exact ⟨_, _, s2, hend⟩
    | exit id => exact ⟨_, _, s2, hend⟩
    | ret => exact ⟨_, _, s2, hend⟩
theorem leaves_marks {P : Program} {fn : Func} {tmps : Array Value} {R : Ending → World → Prop} {u : FrameMode} (hu : u ≠ .run) : ∀ (ks : List Nat) (w : World), ks.Nodup → (∀ k ∈ ks, w.heap[k]? = some (.deferred (some []))) →
    LeavesIn (fence none) 0 P fn tmps R [] u (shut ks w) → LeavesInM (fence none) 0 P fn tmps R (ks.map mark) u w
  | [], w, _, _, h => h
  | k :: ks, w, hn, hk, h => by
    rw [List.nodup_cons] at hn
    refine ⟨hu, .inl ⟨k, _, rfl, run_takeDeferred (hk k (by simp)), ?_⟩⟩
    refine leaves_marks hu ks _ hn.2 (fun k' hk' => ?_) h
    have hne : k' ≠ k := fun e => hn.1 (by rw [← e]; exact hk')
    rw [World.putObj_heap_other hne]
    exact hk k' (by simp [hk'])
theorem lcall_yield0 {P : Program} {T : Tab} {n f : Nat} {args : List Value} {L : LHeap} (h : YB ≤ f) : lcall P T (n + 1) f args L = lyield P T (callee T (lcall P T n)) n (f - YB) args L := by
  unfold lcall
  rw [show Nat.ble YB f = true from Nat.ble_eq_true_of_le h, hif_true]
theorem lcall_yield {P : Program} {T : Tab} {n j : Nat} {args : List Value} {L : LHeap} : lcall P T (n + 1) (j + YB) args L = lyield P T (callee T (lcall P T n)) n j args L := by
  have h1 : YB ≤ j + YB := Nat.le_add_left _ _
  have h2 : j + YB - YB = j := Nat.add_sub_cancel _ _
  generalize j + YB = f at *
  rw [lcall_yield0 h1, h2]
theorem lcall_plain {P : Program} {T : Tab} {n f : Nat} {args : List Value} {L : LHeap} (hf : f < YB) : lcall P T (n + 1) f args L =
    (match T.spec f with
      | some g => g (callee T (lcall P T n)) args L
      | none =>
        match P.funcs[f]? with
        | some fn =>
          match fn.body with
          | some c => hif (Nat.ble args.length fn.ntmps && distinct (rids c)) (lexec P (T.keep f) f fn.ntmps (callee T (lcall P T n)) n c (lret P fn) (enum args 0) L) none
          | none => none
        | none => none) := by
  have : Nat.ble YB f = false := by
    cases h : Nat.ble YB f with
    | false => rfl
    | true => have := Nat.le_of_ble_eq_true h; omega
  show hif (Nat.ble YB f) _ _ = _
  rw [this, hif_false]
  rfl
theorem callee_ok {G : Keep} {P : Program} {T : Tab} (hS : SpecOk G P T) (hn : P.funcs.all (fun fn => !(fn.name == "runtime.NumGoroutine")) = true) {call : Caller} (hc : CallOk G P call) : CallOk G P (callee T call) := by
  refine ⟨fun f args L r0 r hf h hreal => ?_, fun j args L r0 r h hreal m w args' i hr hg hv hi => ?_⟩
  · unfold callee at h
    split at h
    · rename_i g hg
      rcases (hS.pures f g hg).2 args L r0 r h hreal with ⟨⟨fn, c, hf, hb⟩, hcl⟩ | hext
      · exact .inl ⟨hcl, fun args' w => enters_any hn hf hb args'.toList w⟩
      · exact .inr hext
    · exact hc.calls f args L r0 r hf h hreal
  · unfold callee at h
    split at h
    · rename_i g hg
      exact absurd (hS.pures _ g hg).1 (Nat.not_lt.2 (Nat.le_add_left _ _))
    · exact hc.rounds j args L r0 r h hreal m w args' i hr hg hv hi
/-- **Calls are followed.** -/
theorem lcall_ok {G : Keep} {P : Program} {T : Tab} (hS : SpecOk G P T) (hm : P.follows .mixedOrders = true) (hn : P.funcs.all (fun fn => !(fn.name == "runtime.NumGoroutine")) = true) : ∀ n, CallOk G P (lcall P T n)
  | 0 => ⟨(fun f args L r0 r _ h => by cases h), (fun j args L r0 r h => by cases h)⟩
  | n + 1 => by
    have hc := callee_ok hS hn (lcall_ok (T := T) hS hm hn n)
    refine ⟨fun f args L r0 r hf0 h hreal => ?_, fun j args L r0 r h hreal m w args' i hr hg hv hi => ?_⟩
    · rw [lcall_plain hf0] at h
      split at h
      · rename_i g hg
        rcases hS.both f g hg hf0 _ hc args L r0 r h hreal with ⟨⟨fn, c, hf, hb⟩, hcl⟩ | hext
        · exact .inl ⟨hcl, fun args' w => enters_any hn hf hb args'.toList w⟩
        · exact .inr hext
      split at h
      case h_2 => cases h
      rename_i fn hf
      split at h
      case h_2 => cases h
      rename_i c hb
      rw [cond_iff, Bool.and_eq_true] at h
      obtain ⟨⟨hl, hdis⟩, h⟩ := h
      have hl : args.length ≤ fn.ntmps := Nat.le_of_ble_eq_true hl
      refine .inl ⟨fun m w args' hr hg hv => ?_, fun args' w => enters_any hn hf hb args'.toList w⟩
      refine (callsIn_wide (n := 0)).1 (callsIn_of_wp_marks (F := fence none) hf hb trivial (lexec_ok (D := fun w' ds => DOk w' w.heap.size ds) (ro := none) (B := w.heap.size) (cf := c) (N := fn.ntmps) (fun h1 h2 h3 => h1.tr h2 h3) hm hc ⟨fn, hf, hb, rfl⟩ c (okR_sub (distinct_nodup hdis) fun _ _ => rfl) (.inr ⟨rfl, rfl⟩) _ _ _ L m w _ h hr hg
        (fun t v ht => ?_) ?_ .nil (Nat.le_refl _) ⟨fun e env' L' m' w' a' k1 k2 k3 k4 k5 k6 => ?_, fun v L' m' w' v' a' k1 k2 k3 k4 k5 => ?_⟩))
      · obtain ⟨_, h2⟩ := look_enum ht
        obtain ⟨v', h3, h4⟩ := hv.get (j := t) (by simpa using h2)
        have := (List.getElem?_eq_some_iff.1 h3).1
        exact ⟨v', by rw [Array.getElem?_append_left (by simpa using this)]; simpa using h3, h4⟩
      · have := hv.length
        simp; omega
      · have key : lresults P env' L' fn.results.toList (fun vs => match vs with | [v] => some (.ret v L') | vs => some (.ret (.tuple vs.toArray) L')) = some r0 →
            LeavesInM (fence none) 0 P fn a'.tmps (Ends P m L w r) a'.defers .returning w' := fun h => by
          obtain ⟨ks, d1, d2, d3⟩ := k5
          obtain ⟨s1, s2⟩ := shut_ok ks w' d2 d3 k2 k4
          obtain ⟨vs, vs', g1, g2, g3⟩ := lresults_ok s1 k3 _ _ h
          rw [d1]
          refine leaves_marks (by simp) ks w' d2 (fun k hk => (d3 k hk).2) ⟨_, run_results g3, ?_⟩
          cases g2 with
          | nil => injection g1 with g1; subst g1; injection hreal with hreal; subst hreal; exact ⟨m', _, rfl, .tuple .nil, s1, s2⟩
          | cons x xs =>
            cases xs with
            | nil => injection g1 with g1; subst g1; injection hreal with hreal; subst hreal; exact ⟨m', _, rfl, x, s1, s2⟩
            | cons y ys => injection g1 with g1; subst g1; injection hreal with hreal; subst hreal; exact ⟨m', _, rfl, .tuple (.cons x (.cons y ys)), s1, s2⟩
        cases e with
        | normal => exact key k1
        | exit id => cases k1
        | ret => exact key k1
      · obtain ⟨ks, d1, d2, d3⟩ := k5
        obtain ⟨s1, s2⟩ := shut_ok ks w' d2 d3 k3 k4
        show LeavesInM (fence none) 0 P fn a'.tmps (Ends P m L w r) a'.defers (.panicking _) w'
        rw [d1]
        refine leaves_marks (by simp) ks w' d2 (fun k hk => (d3 k hk).2) ?_
        rw [k1] at hreal
        injection hreal with hreal
        rw [← hreal]; exact ⟨m', v', rfl, k2, s1, s2⟩
    · rw [lcall_yield] at h
      unfold lyield at h
      split at h
      case h_2 => cases h
      rename_i f id env hj
      obtain ⟨lp, k1, k2⟩ := hr.blk_loop hj hi
      cases h0 : lround P T (callee T (lcall P T n)) n f id env j args L with
      | none => rw [h0] at h; cases h
      | some q0 =>
        rw [h0] at h
        have hnp : ∀ v L', q0 ≠ .pan v L' := fun v L' e => by rw [e] at h; cases h
        have hq : q0.real = some r := by
          cases q0 with
          | pan v L' => cases h
          | gate b v L' =>
            cases b with
            | false => cases h
            | true =>
              have h : some (LR.ret v L') = some r0 := h
              injection h with h
              subst h
              exact hreal
          | alt g b v L' u L2 =>
            cases g with
            | false => cases h
            | true =>
              cases b with
              | true =>
                have h : some (LR.ret v L') = some r0 := h
                injection h with h
                subst h
                exact hreal
              | false =>
                have h : some (LR.ret u L2) = some r0 := h
                injection h with h
                subst h
                exact hreal
          | ret v L' =>
            simp only [lbindR_ret] at h
            injection h with h
            subst h
            exact hreal
        obtain ⟨fn, tmps, assign, body, g1, _⟩ := lround_ok hm hc h0 hnp hq hr hg hv hi k1 k2 none 0
        refine ⟨fn, tmps, assign, body, g1, fun ro nn => ?_⟩
        obtain ⟨fn', tmps', assign', body', g3, g4⟩ := lround_ok hm hc h0 hnp hq hr hg hv hi k1 k2 ro nn
        rw [g1] at g3
        injection g3 with g3
        injection g3 with _ e1 e2 e3 e4
        subst e1; subst e2; subst e3; subst e4
        exact g4
end Go.Rlm
end

section
namespace Go.Rlm
/-- Nothing there. -/
theorem Rep.empty {P : Program} {w : World} : Rep P (fun _ => none) [] w :=
  ⟨fun _ _ => rfl, fun r cs e ro sp h => by simp at h, fun r r' i i' h => by obtain ⟨cs, e, sp, h⟩ := h; simp at h, ⟨fun r f id env st h => by simp at h, fun r r' f id env st f' id' env' st' i i' h => by simp at h, fun r es ck h => by simp at h, fun r r' es ck es' ck' i i' h => by simp at h⟩⟩
theorem own_nil {r : Nat} : ¬ mine [] r := fun h => by
  rcases h with ⟨cs, e, sp, h⟩ | ⟨b, _, h⟩ <;> simp at h
/-- Does the run tell true? -/
def told (r : R) : Bool :=
  match r with
  | some (.ret (.bool b) _) => b
  | _ => false
end Go.Rlm
end

section
namespace Go.Rlm
/-- internal/abi.NoEscape: the pointer itself. -/
def sameSpec : Spec := fun _ args L =>
  match args with
  | [.pointer p] => some (.ret (.pointer p) L)
  | _ => none
theorem sameSpec_ok {P : Program} {f : Nat} {fn : Func} (hf : P.funcs[f]? = some fn) (hname : (fn.name == "runtime.NumGoroutine") = false) (hb : fn.body.isNone = true) (hn : Extern.findNext fn = none)
    (he : Extern.find fn = some Extern.AbiNoEscape.same) {call : Caller} {args : List Value} {L : LHeap} {r : LR} (h : sameSpec call args L = some r) : ExtOk P f args L r := by
  unfold sameSpec at h
  split at h
  case h_2 => cases h
  rename_i p
  injection h with h
  subst h
  refine ⟨?_, .pointer p, L, rfl, ?_, ?_⟩
  · intro x hx j az bs e
    rw [List.mem_singleton] at hx
    rw [hx] at e
    exact Value.noConfusion e
  · intro b e
    exact Value.noConfusion e
  · intro m w args' hr hv
    cases hv with
    | cons hx hs =>
      cases hs
      exact ⟨m, w, _, by rw [run_callFunc_extern hf hname hb hn he]; rfl, hx, hr, .refl m L w⟩
/-- internal/bytealg.IndexByteString. -/
def idxSpec : Spec := fun _ args L =>
  match args with
  | [.string s, .int .u8 c] => some (.ret (.int .i64 (firstIdx s c.toNat.toUInt8)) L)
  | _ => none
theorem idxSpec_ok {P : Program} {f : Nat} {fn : Func} (hf : P.funcs[f]? = some fn) (hname : (fn.name == "runtime.NumGoroutine") = false) (hb : fn.body.isNone = true) (hn : Extern.findNext fn = none)
    (he : Extern.find fn = some Extern.BytealgIndexByte.indexByte) {call : Caller} {args : List Value} {L : LHeap} {r : LR} (h : idxSpec call args L = some r) : ExtOk P f args L r := by
  unfold idxSpec at h
  split at h
  case h_2 => cases h
  rename_i s c
  injection h with h
  subst h
  refine ⟨?_, .int .i64 (firstIdx s c.toNat.toUInt8), L, rfl, ?_, ?_⟩
  · intro x hx j az bs e
    subst e
    simp at hx
  · intro b e
    exact Value.noConfusion e
  · intro m w args' hr hv
    cases hv with
    | cons hx hs =>
      cases hs with
      | cons hy hs =>
        cases hs
        rw [hx.of_string, hy.of_int]
        exact ⟨m, w, _, by rw [run_callFunc_extern hf hname hb hn he, run_indexByte_string]; rfl, .flat1 rfl, hr, .refl m L w⟩
/-- internal/bytealg.MakeNoZero: a new row of which no cell is known. -/
def rawSpec (e : TypeId) : Spec := fun _ args L =>
  match args with
  | [.int .i64 n] => when (decide (0 ≤ n) && decide (n ≤ 140737488355328)) (some (.ret (.slice (some ⟨L.length, 0, none⟩) n.toNat OPEN) (L ++ [.cells [] e false 1])))
  | _ => none
theorem rawSpec_ok {P : Program} {f : Nat} {fn : Func} (hf : P.funcs[f]? = some fn) (hname : (fn.name == "runtime.NumGoroutine") = false) (hb : fn.body.isNone = true) (hn : Extern.findNext fn = none)
    {ps : Array TypeId} {t e : TypeId} (ht : P.underlying t = some (.slice e)) (hc : P.cellsOf e = 1)
    (he : Extern.find fn = some (Extern.BytealgMakeNoZero.makeNoZero ps #[t])) {call : Caller} {args : List Value} {L : LHeap} {r : LR} (h : rawSpec e call args L = some r) : ExtOk P f args L r := by
  unfold rawSpec at h
  split at h
  case h_2 => cases h
  rename_i n
  rw [when_iff] at h
  obtain ⟨h1, h⟩ := h
  simp only [Bool.and_eq_true, decide_eq_true_eq] at h1
  injection h with h
  subst h
  refine ⟨?_, .slice (some ⟨L.length, 0, none⟩) n.toNat OPEN, L ++ [.cells [] e false 1], rfl, ?_, ?_⟩
  · intro x hx j az bs e
    subst e
    simp at hx
  · intro b e
    exact Value.noConfusion e
  · intro m w args' hr hv
    cases hv with
    | cons hx hs =>
      cases hs
      rw [hx.of_int]
      obtain ⟨k, rfl⟩ : ∃ k : Nat, n = (k : Int) := ⟨n.toNat, by omega⟩
      obtain ⟨cs, hrun, hle⟩ := Lib.run_makeNoZero (P := P) w ps t e ht k (by omega)
      obtain ⟨g1, g2⟩ := hr.push (w' := w.drew.drew.alloc (.cells cs e)) (cs := []) (cs' := []) (e := e) 1 cs.size (fz := (0, 0)) (extra := cs.toList)
        rfl (by intro o _; omega) rfl rfl rfl .nil (fun v hv => by cases hv) (fun _ => ⟨by simp, hc.symm⟩)
      refine ⟨_, _, .slice (some ⟨w.heap.size, 0, none⟩) k cs.size, by rw [run_callFunc_extern hf hname hb hn he, hrun]; rfl, ?_, g1, g2⟩
      have hm : ins m L.length ⟨w.heap.size, 0, cs.size, 1⟩ L.length = some ⟨w.heap.size, 0, cs.size, 1⟩ := by simp [ins]
      have := VR.opn (a := ⟨L.length, 0, none⟩) (n := k) hm
      simpa [Info.at] using this
end Go.Rlm
end

section
namespace Go.Rlm
/-- A value without addresses, or several of them. -/
def plain : Value → Bool
  | .tuple vs => vs.toList.all flat
  | v => flat v
theorem VRs.flats {m : RMap} : ∀ {vs : List Value}, (∀ v ∈ vs, Rlm.flat v = true) → VRs m vs vs
  | [], _ => .nil
  | v :: vs, h => .cons (VR.flat (h v (by simp))) (VRs.flats fun u hu => h u (by simp [hu]))
theorem VRs.eq_flat1 {m : RMap} : ∀ {vs vs' : List Value}, (∀ v ∈ vs, Rlm.flat1 v = true) → VRs m vs vs' → vs' = vs
  | [], _, _, h => by cases h; rfl
  | v :: vs, _, hf, h => by
    cases h with
    | cons h hs =>
      rw [VRs.eq_flat1 (fun u hu => hf u (by simp [hu])) hs]
      have := hf v (by simp)
      cases h with
      | flat1 _ => rfl
      | _ => simp [Rlm.flat1] at this
theorem VR.eq_flat {m : RMap} {v v' : Value} (hf : Rlm.flat v = true) (h : VR m v v') : v' = v := by
  cases h with
  | flat1 _ => rfl
  | agg h ho => rw [VRs.eq_flat1 (List.all_eq_true.1 hf) h]
  | _ => simp [Rlm.flat, Rlm.flat1] at hf
theorem VRs.eq_flat {m : RMap} : ∀ {vs vs' : List Value}, (∀ v ∈ vs, Rlm.flat v = true) → VRs m vs vs' → vs' = vs
  | [], _, _, h => by cases h; rfl
  | v :: vs, _, hf, h => by
    cases h with
    | cons h hs => rw [VRs.eq_flat (fun u hu => hf u (by simp [hu])) hs, h.eq_flat (hf v (by simp))]
theorem VR.eq_plain {m : RMap} {v v' : Value} (hf : plain v = true) (h : VR m v v') : v' = v := by
  cases v with
  | tuple vs =>
    obtain ⟨vs', rfl, h'⟩ := h.of_tuple
    have := VRs.eq_flat (List.all_eq_true.1 hf) h'
    rw [Array.ext' this]
  | _ => exact h.eq_flat hf
theorem VR.plain {m : RMap} {v : Value} (hf : Rlm.plain v = true) : VR m v v := by
  cases v with
  | tuple vs => exact VR.tuple (cs := vs.toList) (cs' := vs.toList) (VRs.flats (List.all_eq_true.1 hf))
  | _ => exact VR.flat hf
/-- What a function answers on an empty heap it answers on any: plain values in, plain values out. -/
theorem plain_calls {G : Keep} {P : Program} {T : Tab} (hS : SpecOk G P T) (hm : P.follows .mixedOrders = true) (hn : P.funcs.all (fun fn => !(fn.name == "runtime.NumGoroutine")) = true)
    {n f : Nat} {args args' : List Value} {v : Value} {L : LHeap} {m : RMap} {w : World}
    (ha : args.all flat = true) (hp : plain v = true) (h : lpure P T n f args = ok v) (hr : Rep P m L w) (hg : G.J w) (hv : VRs m args args') :
    (∃ fn c, P.funcs[f]? = some fn ∧ fn.body = some c) ∧ Calls P f ⟨args'⟩ w (Ends P m L w (.ret v L)) := by
  have ha' := List.all_eq_true.1 ha
  have e := VRs.eq_flat ha' hv
  subst e
  have hc := callee_ok hS hn (lcall_ok (T := T) hS hm hn n)
  unfold lpure at h
  split at h
  case h_2 => cases h
  rename_i fn hf
  split at h
  case h_2 => cases h
  rename_i c hb
  refine ⟨⟨fn, c, hf, hb⟩, ?_⟩
  have h : (hif (Nat.ble args'.length fn.ntmps && distinct (rids c)) (lexec P (T.keep f) f fn.ntmps (callee T (lcall P T n)) n c (ldrop P fn) (enum args' 0) []) none) = some (.ret v []) := h
  rw [cond_iff, Bool.and_eq_true] at h
  obtain ⟨⟨hl, hdis⟩, h⟩ := h
  have hl : args'.length ≤ fn.ntmps := Nat.le_of_ble_eq_true hl
  have hr0 : Rep P (fun _ => none) [] w := Rep.empty
  have hv0 : VRs (fun _ => none) args' args' := VRs.flats ha'
  refine (callsIn_wide (n := 0)).1 (callsIn_of_wp_marks (F := fence none) hf hb trivial (lexec_ok (D := fun w' ds => DOk w' w.heap.size ds) (ro := none) (B := w.heap.size) (cf := c) (N := fn.ntmps) (fun h1 h2 h3 => h1.tr h2 h3) hm hc ⟨fn, hf, hb, rfl⟩ c (okR_sub (distinct_nodup hdis) fun _ _ => rfl) (.inr ⟨rfl, rfl⟩) _ _ _ [] (fun _ => none) w _ h hr0 ⟨hg, fun r i hr => absurd hr own_nil⟩
    (fun t v ht => ?_) ?_ .nil (Nat.le_refl _) ⟨fun e env' L' m' w' a' k1 k2 k3 k4 k5 k6 => ?_, fun v L' m' w' v' a' k1 k2 k3 k4 k5 => (by cases k1)⟩))
  · obtain ⟨_, h2⟩ := look_enum ht
    obtain ⟨v', h3, h4⟩ := hv0.get (j := t) (by simpa using h2)
    have := (List.getElem?_eq_some_iff.1 h3).1
    exact ⟨v', by rw [Array.getElem?_append_left (by simpa using this)]; simpa using h3, h4⟩
  · have := hv0.length
    simp; omega
  · have key : lresults P env' L' fn.results.toList (fun vs => match vs with | [v] => ok v | vs => ok (.tuple vs.toArray)) = some (.ret v []) →
        LeavesInM (fence none) 0 P fn a'.tmps (Ends P m L w (.ret v L)) a'.defers .returning w' := fun h => by
      obtain ⟨ks, d1, d2, d3⟩ := k5
      obtain ⟨s1, s2⟩ := shut_ok ks w' d2 d3 k2 k4
      obtain ⟨vs, vs', g1, g2, g3⟩ := lresults_ok s1 k3 _ _ h
      have fin : ∀ u', VR m' v u' → Ends P m L w (.ret v L) (.returned u') (shut ks w') := fun u' hu => by
        have e := hu.eq_plain hp
        subst e
        have hframe : ∀ b, b < w.heap.size → (shut ks w').heap[b]? = w.heap[b]? := fun b hb => s2.frame b hb fun r i hr => absurd hr own_nil
        exact ⟨m, u', rfl, VR.plain hp, hr.grow hframe, .of hr (.refl m) (Nat.le_refl _) s2.size s2.os s2.tape s2.output (fun r i h6 h7 => .inl ⟨r, i, h6, h7, rfl⟩) (fun b hb _ => hframe b hb) (fun r b _ h => h)⟩
      rw [d1]
      refine leaves_marks (by simp) ks w' d2 (fun k hk => (d3 k hk).2) ⟨_, run_results g3, ?_⟩
      cases g2 with
      | nil => injection g1 with g1; injection g1 with g1 _; subst g1; exact fin _ (.tuple .nil)
      | cons x xs =>
        cases xs with
        | nil => injection g1 with g1; injection g1 with g1 _; subst g1; exact fin _ x
        | cons y ys => injection g1 with g1; injection g1 with g1 _; subst g1; exact fin _ (.tuple (.cons x (.cons y ys)))
    cases e with
    | normal => exact key k1
    | exit id => cases k1
    | ret => exact key k1
/-- What is asked of one entry of the table. -/
def PureOk (G : Keep) (P : Program) (f : Nat) (g : PSpec) : Prop := f < YB ∧ ∀ args L r0 r, g args L = some r0 → r0.real = some r → AnsOk G P f args L r
def SpecAt (G : Keep) (P : Program) (f : Nat) (g : Spec) : Prop := ∀ call, CallOk G P call → ∀ args L r0 r, g call args L = some r0 → r0.real = some r → AnsOk G P f args L r
section
variable {G : Keep} {P : Program} {keep : Nat → Nat → List Nat} {l : List (Nat × Spec)} {q : List (Nat × PSpec)}
theorem SpecOk.nil : SpecOk G P ⟨keep, slook [], plook []⟩ := ⟨fun _ _ h => (by cases h), fun _ _ h => (by cases h)⟩
theorem SpecOk.cons {f : Nat} {g : Spec} (hg : SpecAt G P f g) (h : SpecOk G P ⟨keep, slook l, plook q⟩) : SpecOk G P ⟨keep, slook ((f, g) :: l), plook q⟩ := by
  refine ⟨fun f' g' hl hf => ?_, h.pures⟩
  have hl : (bif Nat.beq f f' then some g else slook l f') = some g' := hl
  cases hb : Nat.beq f f' with
  | true =>
    rw [hb] at hl
    injection hl with hl
    subst hl
    rw [← Nat.eq_of_beq_eq_true hb]
    exact hg
  | false =>
    rw [hb] at hl
    exact h.both f' g' hl hf
theorem SpecOk.more {f : Nat} {g : PSpec} (hg : PureOk G P f g) (h : SpecOk G P ⟨keep, slook l, plook q⟩) : SpecOk G P ⟨keep, slook l, plook ((f, g) :: q)⟩ := by
  refine ⟨h.both, fun f' g' hl => ?_⟩
  have hl : (bif Nat.beq f f' then some g else plook q f') = some g' := hl
  cases hb : Nat.beq f f' with
  | true =>
    rw [hb] at hl
    injection hl with hl
    subst hl
    rw [← Nat.eq_of_beq_eq_true hb]
    exact hg
  | false =>
    rw [hb] at hl
    exact h.pures f' g' hl
end
/-- A function's runs on an empty heap are what its entry says. -/
theorem PureOk.runs {G : Keep} {P : Program} {T : Tab} (hS : SpecOk G P T) (hm : P.follows .mixedOrders = true) (hn : P.funcs.all (fun fn => !(fn.name == "runtime.NumGoroutine")) = true)
    {n f : Nat} (hf : f < YB) {g : PSpec}
    (h : ∀ args L r0 r, g args L = some r0 → r0.real = some r → ∃ v, r = .ret v L ∧ args.all flat = true ∧ plain v = true ∧ lpure P T n f args = ok v) : PureOk G P f g := by
  refine ⟨hf, fun args L r0 r hr hreal => ?_⟩
  obtain ⟨v, rfl, h1, h2, h3⟩ := h args L r0 r hr hreal
  have hb : ∃ fn c, P.funcs[f]? = some fn ∧ fn.body = some c := by
    unfold lpure at h3
    split at h3
    case h_2 => cases h3
    rename_i fn hf
    split at h3
    case h_2 => cases h3
    rename_i c hb
    exact ⟨fn, c, hf, hb⟩
  exact .inl ⟨hb, fun m w args' hr hg hv => (plain_calls hS hm hn h1 h2 h3 hr hg.1 hv).2⟩
/-- A function without a body. -/
theorem SpecAt.ext {G : Keep} {P : Program} {f : Nat} {g : Spec} (h : ∀ call args L r, g call args L = some r → ExtOk P f args L r) : SpecAt G P f g := fun call _ args L r0 r hr hreal => by
  obtain ⟨h1, v, L', rfl, h2⟩ := h call args L r0 hr
  injection hreal with hreal
  exact .inr (hreal ▸ ⟨h1, v, L', rfl, h2⟩)
/-- Does the run tell true? -/
def toldD (r : R) : Bool :=
  match r with
  | some (.ret (.bool b) []) => b
  | _ => false
theorem toldD_true {r : R} (h : toldD r = true) : r = ok (.bool true) := by
  unfold toldD at h
  split at h
  · subst h; rfl
  · cases h
/-- A closed function that tells true. -/
def trueP : PSpec := fun args L =>
  match args with
  | [] => some (.ret (.bool true) L)
  | _ => none
theorem PureOk.told {G : Keep} {P : Program} {T : Tab} (hS : SpecOk G P T) (hm : P.follows .mixedOrders = true) (hn : P.funcs.all (fun fn => !(fn.name == "runtime.NumGoroutine")) = true)
    {n f : Nat} (hf : f < YB) (h : toldD (lpure P T n f []) = true) : PureOk G P f trueP :=
  .runs (T := T) (n := n) hS hm hn hf fun args L r0 r hr hreal => by
    unfold trueP at hr
    split at hr
    case h_2 => cases hr
    injection hr with hr
    subst hr
    injection hreal with hreal
    subst hreal
    exact ⟨_, rfl, rfl, rfl, toldD_true h⟩
/-- A law of plain values. -/
theorem pure_walk {G : Keep} {P : Program} {T : Tab} (hS : SpecOk G P T) (hm : P.follows .mixedOrders = true) (hn : P.funcs.all (fun fn => !(fn.name == "runtime.NumGoroutine")) = true)
    {n f : Nat} {args : List Value} {b : Bool} {w : World} (ha : args.all flat = true) (h : lpure P T n f args = ok (.bool b)) (hg : G.J w) :
    Calls P f ⟨args⟩ w fun e w' => e = .returned (.bool b) ∧ Go.RowKit.Below w.heap.size w w' := by
  refine (plain_calls (m := fun _ => none) (L := []) hS hm hn ha rfl h Rep.empty hg (VRs.flats (List.all_eq_true.1 ha))).2.mono fun e w' he => ?_
  obtain ⟨m', v', h1, h2, h3, h4⟩ := he
  exact ⟨by rw [h1, h2.of_bool], h4.os, h4.tape, h4.output, h4.size, fun k hk => h4.frame k hk fun r i hr => absurd hr own_nil⟩
/-- A function without a body az an entry. -/
def extP (g : Spec) : PSpec := fun args L => g (fun _ _ _ => none) args L
theorem PureOk.ext {G : Keep} {P : Program} {f : Nat} {g : Spec} (hf : f < YB) (h : ∀ call args L r, g call args L = some r → ExtOk P f args L r) : PureOk G P f (extP g) :=
  ⟨hf, fun args L r0 r hr hreal => by
    obtain ⟨h1, v, L', rfl, h2⟩ := h _ args L r0 hr
    injection hreal with hreal
    exact .inr (hreal ▸ ⟨h1, v, L', rfl, h2⟩)⟩
/-- An entry that does what the machine does in the function itself. -/
theorem PureOk.steps {G : Keep} {P : Program} {T : Tab} (hS : SpecOk G P T) (hm : P.follows .mixedOrders = true) (hn : P.funcs.all (fun fn => !(fn.name == "runtime.NumGoroutine")) = true)
    {n f : Nat} {fn : Func} {c : Code} (hfn : P.funcs[f]? = some fn) (hb : fn.body = some c) (hf : f < YB) {g : PSpec} (h : ∀ args L r0 r, g args L = some r0 → r0.real = some r → lcall P T n f args L = some r ∧ r.real = some r) : PureOk G P f g :=
  ⟨hf, fun args L r0 r hr hreal => by
    rcases (lcall_ok hS hm hn n).calls f args L r r hf (h args L r0 r hr hreal).1 (h args L r0 r hr hreal).2 with ⟨hc, _⟩ | hx
    · exact .inl ⟨⟨fn, c, hfn, hb⟩, hc⟩
    · exact .inr hx⟩
end Go.Rlm
end

section
namespace Go.Rlm
/-- A contract of the kit's shelf (plain values in and out, nothing that was there has turned) az an entry. -/
theorem PureOk.below {G : Keep} {P : Program} {f : Nat} {fn : Func} {c : Code} (hfn : P.funcs[f]? = some fn) (hb : fn.body = some c) (hf : f < YB) {g : PSpec}
    (h : ∀ args L r0 r, g args L = some r0 → r0.real = some r → ∃ v, r = .ret v L ∧ args.all flat = true ∧ plain v = true ∧ ∀ w, G.J w → Calls P f ⟨args⟩ w fun e w' => e = .returned v ∧ Go.RowKit.Below w.heap.size w w') : PureOk G P f g := by
  refine ⟨hf, fun args L r0 r hr hreal => .inl ⟨⟨fn, c, hfn, hb⟩, fun m w args' hr' hg hv => ?_⟩⟩
  obtain ⟨v, rfl, h1, h2, h3⟩ := h args L r0 r hr hreal
  have e := VRs.eq_flat (List.all_eq_true.1 h1) hv
  subst e
  refine (h3 w hg.1).mono fun e w' he => ?_
  obtain ⟨rfl, k1, k2, k3, k4, k5⟩ := he
  exact ⟨m, v, rfl, VR.plain h2, hr'.grow k5, .of hr' (.refl m) (Nat.le_refl _) k4 k1 k2 k3 (fun r i h6 h7 => .inl ⟨r, i, h6, h7, rfl⟩) (fun b hb _ => k5 b hb) (fun r b _ h => h)⟩
/-- strings.Repeat. -/
def repS (s : ByteArray) (c : Nat) : ByteArray := ⟨(Lib.repeatL s.data.toList c).toArray⟩
def repeatP : PSpec := fun args L =>
  match args with
  | [.string s, .int .i64 c] => some (.gate (decide (0 ≤ c) && Nat.ble (s.size * c.toNat) 140737488355328 && Nat.ble c.toNat 9223372036854775807) (.string (repS s c.toNat)) L)
  | _ => none
theorem gate_real {b : Bool} {v : Value} {L : LHeap} {r : LR} (h : (LR.gate b v L).real = some r) : b = true ∧ r = .ret v L := by
  cases b with
  | true => injection h with h; exact ⟨rfl, h.symm⟩
  | false => cases h
theorem alt_real {g b : Bool} {v v' : Value} {L L' : LHeap} {r : LR} (h : (LR.alt g b v L v' L').real = some r) : g = true ∧ ((b = true ∧ r = .ret v L) ∨ (b = false ∧ r = .ret v' L')) := by
  cases g with
  | false => cases h
  | true =>
    cases b with
    | true => injection h with h; exact ⟨rfl, .inl ⟨rfl, h.symm⟩⟩
    | false => injection h with h; exact ⟨rfl, .inr ⟨rfl, h.symm⟩⟩
theorem repeat_ok {G : Keep} {P : Program} {f : Nat} {fn : Func} {c : Code} (hfn : P.funcs[f]? = some fn) (hb : fn.body = some c) (hf : f < YB)
    (h : ∀ (s : ByteArray) (c : Nat) (w : World), c ≤ 9223372036854775807 → s.size * c ≤ 140737488355328 →
      Calls P f #[.string s, .int .i64 c] w fun e w' => e = .returned (.string ⟨(Lib.repeatL s.data.toList c).toArray⟩) ∧ Go.RowKit.Below w.heap.size w w') : PureOk G P f repeatP :=
  .below hfn hb hf fun args L r0 r hr hreal => by
    unfold repeatP at hr
    split at hr
    case h_2 => cases hr
    rename_i s c
    injection hr with hr
    subst hr
    obtain ⟨h1, rfl⟩ := gate_real hreal
    simp only [Bool.and_eq_true, decide_eq_true_eq, Nat.ble_eq] at h1
    refine ⟨_, rfl, rfl, rfl, fun w _ => ?_⟩
    obtain ⟨n, rfl⟩ : ∃ n : Nat, c = (n : Int) := ⟨c.toNat, by omega⟩
    exact h s n w (by omega) (by simpa using h1.1.2)
end Go.Rlm
end

section
set_option maxRecDepth 100000
set_option linter.unusedVariables false
namespace Go.Proofs.YtffcfaabjodpcaaGreatDoor.X
open Go Go.Rlm
/-- The slots that each loop keeps. -/
def keeps : Nat → Nat → List Nat := tlook
  [(4, [(10, [2, 3, 5, 9])]), (5, [(5, [0, 3, 4]), (13, [0, 3, 5, 6, 7])]), (6, [(4, [0, 1, 5]), (7, [0, 1, 5, 6])]), (7, [(9, [1, 7, 9, 10, 11, 12])]), (8, [(9, [5, 6, 7])]),
    (9, [(4, [0, 1, 5]), (11, [0, 1, 5, 6, 10]), (23, [0, 1, 5, 11, 19, 23]), (27, [0, 1, 5, 19, 24])]), (10, [(6, [2, 4, 6, 7, 8])]), (11, [(9, [0, 1, 2, 7, 9, 10, 11])]),
    (12, [(13, [1, 5, 12, 13])]), (14, [(5, [4, 14, 15])]), (16, [(4, [0, 2, 4, 5, 7, 21])]), (17, [(2, [0, 2, 4]), (7, [0, 2, 4, 5, 6, 7])]), (21, [(4, [1, 3])]), (22, [(5, [0, 3, 4])]),
    (25, [(4, [0, 1, 5])]), (26, [(3, [0, 3, 4]), (6, [0, 3, 4, 5])]), (27, [(5, [0, 4, 5, 23, 24, 25]), (20, [8, 10, 11, 70, 71, 72])]), (28, [(7, [4, 7, 8])]), (29, [(12, [11, 13, 70, 71, 72])]),
    (30, [(4, [0, 1, 5, 6, 7]), (9, [5, 8, 9])]), (31, [(7, [1, 6, 7, 13, 14]), (17, [6, 15, 17, 18])]), (38, [(4, [0, 1, 5])]), (39, [(3, [0, 3, 4])]),
    (40, [(6, [0, 3, 6, 8, 23]), (15, [3, 10, 11, 49, 50]), (18, [3, 10, 11, 12, 49, 50, 53, 54])]), (41, [(5, [0, 3, 6, 19, 20, 21]), (16, [0, 3, 9, 10, 43])]), (54, [(5, [1, 4])]),
    (61, [(5, [0, 4, 15, 16, 17])]), (63, [(4, [0, 4])]), (68, [(3, [0, 4, 5]), (11, [0, 4, 8, 9]), (14, [0, 4, 8, 9, 10])]), (69, [(3, [0, 3, 4])]), (71, [(8, [2, 4, 5, 7, 8, 9])]),
    (72, [(9, [0, 3, 5, 7, 32])]), (78, [(17, [0, 7, 9, 11, 13, 15, 16, 17])]), (79, [(8, [0, 5, 8, 9])]), (81, [(7, [0, 3, 6, 7])]), (83, [(38, [7, 8, 9])]),
    (86, [(12, [0, 1, 5, 39, 40, 41]), (22, [1, 8, 63, 64, 65])]), (91, [(10, [5, 6, 47, 48, 49])]), (94, [(1, [0])]), (95, [(8, [5, 31, 32]), (11, [5, 7, 31, 32, 35])]),
    (96,
      [(7, [0, 1, 6, 7, 8]), (11, [6, 7, 8, 9]), (14, [6, 7, 8, 9, 10]), (20, [6, 7, 8, 9, 10, 11, 12, 13, 14]), (30, [6, 7, 8, 9, 10, 13, 15, 16, 17]), (42, [6, 7, 8, 9, 10, 15, 19]),
        (47, [7, 20, 21])]),
    (98, [(2, [0, 1, 7, 8])]), (100, [(2, [0, 1, 2, 6, 7, 8]), (7, [0, 1, 2, 6]), (9, [0, 1, 2, 6, 7, 8])]), (103, [(5, [0, 3, 4, 5, 9, 10, 11])]),
    (106, [(5, [0, 3, 4, 5, 6]), (1099511627785, [0, 0, 3, 4, 5, 6]), (1099511627787, [0, 0, 3, 4, 5, 6, 7, 8]), (1099511627791, [0, 0, 3, 4, 5, 6, 7, 8, 11])]), (107, [(2, [0, 7, 8, 9])]),
    (110, [(3, [0, 5, 6])]), (112, [(3, [0, 4, 5]), (11, [4, 6, 7, 8]), (23, [4, 9, 12, 15, 17, 19, 20])]), (113, [(4, [0, 3, 4, 5]), (12, [0, 3, 4, 5, 6, 7, 10, 11])]), (119, [(9, [6, 7])]),
    (120, [(4, [0, 1, 12, 13])]), (121, [(9, [7, 8])]), (122, [(3, [1, 6, 11, 12, 13])]), (124, [(4, [0, 4])]), (125, [(5, [0, 3, 4])]), (127, [(3, [0, 5, 6])]), (129, [(3, [0, 5, 6, 7])]),
    (131, [(6, [0, 4, 5, 6])]), (132, [(9, [0, 4, 7, 9, 10]), (15, [0, 4, 7, 11, 12, 13]), (24, [11, 12, 16])]), (133, [(4, [0, 1, 6, 7, 8]), (13, [0, 1, 6, 7, 8, 9, 11])]),
    (137, [(2, [0, 1, 7, 8])]), (138, [(1, [0, 1])]), (139, [(1, [0, 1])]), (140, [(2, [0, 2, 4])]), (141, [(1, [0, 1])]), (142, [(1, [0, 1])]), (143, [(1, [0, 1])]), (144, [(1, [0, 1])]),
    (146, [(15, [0, 1, 5, 6, 7, 8, 9, 10])]), (154, [(2, [0, 1, 2, 3, 8, 17]), (16, [0, 8, 10, 99, 100]), (19, [0, 8, 10, 13, 99, 100, 103, 104]), (25, [0, 10, 125])]),
    (156, [(3, [1, 12, 13, 14]), (7, [1, 3, 4, 5, 12, 13, 14])]), (160, [(0, [0, 1])]), (162, [(1, [0, 1, 2, 3, 8]), (4, [0, 1, 2, 3, 8, 9])]),
    (163, [(3, [0, 1, 4, 10, 11]), (9, [0, 10, 13]), (15, [0, 2, 4, 14, 15]), (21, [0, 14, 17]), (33, [0, 1, 2, 3, 4, 18, 19, 20, 21, 22])]),
    (167, [(4, [0, 3, 4, 17, 18, 19]), (16, [7, 8, 9, 10, 11, 12, 13, 46, 47, 48])]), (168, [(7, [6]), (1099511627784, [0, 4, 5])]), (169, [(2, [0, 1, 7, 8])]), (170, [(4, [1, 2, 4, 5])]),
    (173, [(1, [0]), (9, [0])]), (177, [(4, [0, 5]), (11, [6, 7, 8]), (16, [6, 7, 8, 9, 10, 11]), (23, [6, 7, 8, 12])]), (178, [(6, [0, 4, 5, 6]), (9, [0, 4, 5, 6, 7])]), (179, [(3, [0, 5, 6])]),
    (180, [(2, [0, 4]), (8, [0, 5, 6]), (10, [0, 5, 6, 7])]), (181, [(1, [0]), (5, [0, 3, 4])]), (182, [(4, [0, 1, 6, 7, 8]), (7, [0, 1, 6, 7, 8, 9])]),
    (183, [(2, [1, 2, 4, 5]), (7, [2, 4, 5, 6, 7, 8])]), (186, [(2, [0, 2, 9, 10])]), (189, [(3, [4, 10, 11, 12])]), (196, [(5, [0, 9, 10])]), (198, [(9, [0, 5, 44, 45])]),
    (199, [(3, [0, 1, 2, 7, 8])]), (200, [(5, [0, 1, 7, 8]), (7, [0, 1, 7, 8, 9])]), (203, [(5, [0, 1, 6, 7])]), (212, [(10, [0, 4, 5, 6])]), (215, [(1, [0, 1, 4])]),
    (216, [(18, [0, 1, 3, 4, 10, 11, 12, 13, 17]), (11, [0, 1, 3, 4, 10, 11, 12, 13, 14, 15, 16])]), (219, [(5, [0, 1, 5, 6, 7, 8, 9]), (11, [0, 1, 5, 6, 7, 8, 10])]),
    (220, [(36, [1, 8, 9, 10, 11, 12, 13, 99, 100, 101])]), (223, [(3, [0, 1, 9, 10]), (7, [0, 1, 2, 3, 4, 5, 9, 10])]), (226, [(3, [0, 5, 8, 9, 10, 11, 42, 43])]), (231, [(2, [0, 2, 4, 10, 11])]),
    (244, [(6, [0, 1, 2, 26, 27])]), (246, [(0, [0, 1])]), (248, [(3, [0, 1, 2, 7, 8])]), (251, [(2, [0, 1, 7, 8])]), (253, [(11, [0, 1, 2, 3, 9, 10])]), (254, [(2, [0, 3])]),
    (256, [(4, [0, 3, 4, 5]), (12, [3, 4, 6]), (15, [3, 4, 6, 7, 8, 9]), (27, [3, 4, 6, 7, 8, 10, 11])]), (257, [(1, [0, 2, 7, 8])]), (260, [(4, [0, 1, 4, 5, 7, 8])]), (261, [(7, [8, 31, 32, 33])]),
    (262, [(5, [0, 1, 6, 7])]), (267, [(1099511627782, [0, 0, 3, 6])]), (268, [(3, [0, 4, 5, 6])]), (269, [(3, [0, 1, 2, 9, 10, 11])]),
    (272, [(5, [0, 7, 8, 9]), (12, [0, 7, 8, 9, 12]), (25, [0, 7, 8, 9, 14, 15]), (29, [0, 7, 8, 9, 14, 15, 16]), (38, [175])]), (279, [(3, [0, 4, 5]), (8, [4, 6, 7, 8])]),
    (281, [(10, [0, 3, 4, 5])]), (285, [(1, [0, 1, 2, 3, 10])]), (286, [(4, [4]), (8, [4, 28, 29])]), (287, [(7, [4])]), (289, [(1, [0, 1, 3])]), (290, [(6, [0, 1, 6, 7])]), (291, [(6, [0, 1, 5])]),
    (293, [(2, [0, 1, 7, 8])]), (294, [(8, [7, 8])]), (295, [(7, [6, 7, 23, 24, 25])]), (296, [(2, [2, 6, 7, 8])]), (298, [(3, [1, 2, 3, 4])]), (299, [(9, [0, 6, 22, 23])]),
    (305, [(5, [3, 4, 5, 15, 16, 17]), (15, [3, 4, 5, 8])]), (306, [(5, [0, 3, 4])]), (309, [(2, [2, 4])]), (311, [(6, [3, 5, 6, 7])]), (312, [(2, [0, 1, 7, 8])]), (313, [(3, [0, 1, 3, 7, 8, 9])]),
    (316, [(0, [0, 1]), (2, [0, 1, 3])])]
/-- The machine's table. -/
def T : Tab := ⟨keeps, slook [], plook [(83, repeatP), (164, extP sameSpec), (147, extP idxSpec), (270, extP (rawSpec 5))]⟩
end Go.Proofs.YtffcfaabjodpcaaGreatDoor.X
end

section
namespace Go.Proofs
open Go.Shelf
def Tryz.laysM171_ren : Go.Shelf.Ren := ⟨fun | 171 => 43 | 243 => 88 | 246 => 145 | 283 => 213 | 284 => 214 | 285 => 215 | 286 => 216 | 129 => 275 | 317 => 274 | 318 => 276 | 319 => 277 | 320 => 278 | 337 => 301 | 338 => 302 | n => n, fun | 3 => 3 | 9 => 9 | 2 => 2 | 4 => 4 | 171 => 259 | 0 => 0 | 53 => 116 | 37 => 55 | 5 => 5 | 173 => 262 | 212 => 323 | 51 => 173 | 20 => 20 | 213 => 324 | 46 => 42 | 232 => 361 | 233 => 362 | n => n, fun | 17 => 5 | 18 => 6 | 19 => 7 | n => n⟩
theorem Tryz.laysM171 : Go.Proofs.LaysM.n171 Tryz.prog Tryz.laysM171_ren := {
  mixed := by kernel_rfl
  f129 := Tryz.func275.trans (congrArg some (by kernel_rfl))
  f171 := Tryz.func43.trans (congrArg some (by kernel_rfl))
  f243 := Tryz.func88.trans (congrArg some (by kernel_rfl))
  f246 := Tryz.func145.trans (congrArg some (by kernel_rfl))
  f283 := Tryz.func213.trans (congrArg some (by kernel_rfl))
  f284 := Tryz.func214.trans (congrArg some (by kernel_rfl))
  f285 := Tryz.func215.trans (congrArg some (by kernel_rfl))
  f286 := Tryz.func216.trans (congrArg some (by kernel_rfl))
  f317 := Tryz.func274.trans (congrArg some (by kernel_rfl))
  f318 := Tryz.func276.trans (congrArg some (by kernel_rfl))
  f319 := Tryz.func277.trans (congrArg some (by kernel_rfl))
  f320 := Tryz.func278.trans (congrArg some (by kernel_rfl))
  f337 := Tryz.func301.trans (congrArg some (by kernel_rfl))
  f338 := Tryz.func302.trans (congrArg some (by kernel_rfl))
  t0 := Tryz.underlying0
  a0 := Tryz.isAgg0
  z0 := Tryz.sizeOf0
  v0 := Tryz.zeroValue0
  t2 := Tryz.underlying2
  a2 := Tryz.isAgg2
  z2 := Tryz.sizeOf2
  v2 := Tryz.zeroValue2
  t3 := Tryz.underlying3
  a3 := Tryz.isAgg3
  z3 := Tryz.sizeOf3
  v3 := Tryz.zeroValue3
  t4 := Tryz.underlying4
  a4 := Tryz.isAgg4
  z4 := Tryz.sizeOf4
  v4 := Tryz.zeroValue4
  t5 := Tryz.underlying5
  a5 := Tryz.isAgg5
  z5 := Tryz.sizeOf5
  v5 := Tryz.zeroValue5
  t9 := Tryz.underlying9
  a9 := Tryz.isAgg9
  z9 := Tryz.sizeOf9
  v9 := Tryz.zeroValue9
  t20 := Tryz.underlying20
  a20 := Tryz.isAgg20
  z20 := Tryz.sizeOf20
  v20 := Tryz.zeroValue20
  t37 := Tryz.underlying55
  a37 := Tryz.isAgg55
  z37 := Tryz.sizeOf55
  v37 := Tryz.zeroValue55
  t46 := Tryz.underlying42
  a46 := Tryz.isAgg42
  z46 := Tryz.sizeOf42
  v46 := Tryz.zeroValue42
  t51 := Tryz.underlying173
  a51 := Tryz.isAgg173
  z51 := Tryz.sizeOf173
  v51 := Tryz.zeroValue173
  t53 := Tryz.underlying116
  a53 := Tryz.isAgg116
  z53 := Tryz.sizeOf116
  v53 := Tryz.zeroValue116
  t171 := Tryz.underlying259
  a171 := Tryz.isAgg259
  z171 := Tryz.sizeOf259
  v171 := Tryz.zeroValue259
  t173 := Tryz.underlying262
  a173 := Tryz.isAgg262
  z173 := Tryz.sizeOf262
  v173 := Tryz.zeroValue262
  t212 := Tryz.underlying323
  a212 := Tryz.isAgg323
  z212 := Tryz.sizeOf323
  v212 := Tryz.zeroValue323
  t213 := Tryz.underlying324
  a213 := Tryz.isAgg324
  z213 := Tryz.sizeOf324
  t232 := Tryz.underlying361
  a232 := Tryz.isAgg361
  z232 := Tryz.sizeOf361
  v232 := Tryz.zeroValue361
  t233 := Tryz.underlying362
  a233 := Tryz.isAgg362
  z233 := Tryz.sizeOf362
  v233 := Tryz.zeroValue362
  g17 := by kernel_rfl
  g18 := by kernel_rfl
  g19 := by kernel_rfl
  i0 := by kernel_rfl
  i2 := by kernel_rfl
  i3 := by kernel_rfl
  i4 := by kernel_rfl
  i5 := by kernel_rfl
  i9 := by kernel_rfl
  i20 := by kernel_rfl
  i37 := by kernel_rfl
  i46 := by kernel_rfl
  i51 := by kernel_rfl
  i53 := by kernel_rfl
  i171 := by kernel_rfl
  i173 := by kernel_rfl
  i212 := by kernel_rfl
  i232 := by kernel_rfl
  i233 := by kernel_rfl
  m17 := by kernel_rfl
  m18 := by kernel_rfl
  m19 := by kernel_rfl }
open Go.RowKit Go.Sort Go.Lib in
/-- strconv.Itoa: "Itoa is equivalent to FormatInt(int64(i), 10).": i's DECIMAL NUMERAL ('Lib.itoa': a '-' where i is negative, then the digits), FOR EVERY int. The world behind the call: the world before it, new blocks behind the heap (the library's 'var a [24]byte'), draws. (LAID: no walk: one application.) -/
theorem Tryz.strconv_Itoa (n : Int) (h0 : -9223372036854775808 ≤ n) (h1 : n ≤ 9223372036854775807) (w : World) (htab : Lib.TabIs Tryz.prog w "internal/strconv.uint64pow10" .u64 Lib.pow10Tab) :
    Calls Tryz.prog 43 #[.int .i64 n] w fun e w' => e = .returned (.string ⟨(Lib.itoa n).toArray⟩) ∧ ∃ k os, w' = grow (w.drewN k) os := Any.strconv_Itoa Tryz.laysM171 n h0 h1 w htab
def Tryz.laysC172_ren : Go.Shelf.Ren := ⟨fun | 172 => 47 | 244 => 91 | 245 => 92 | 247 => 148 | 279 => 149 | 280 => 150 | 281 => 151 | 282 => 152 | 287 => 220 | 316 => 221 | 171 => 43 | 205 => 222 | 321 => 280 | 322 => 281 | 243 => 88 | 246 => 145 | 283 => 213 | 284 => 214 | 285 => 215 | 286 => 216 | 129 => 275 | 317 => 274 | 318 => 276 | 319 => 277 | 320 => 278 | 337 => 301 | 338 => 302 | n => n, fun | 9 => 9 | 3 => 3 | 75 => 70 | 76 => 71 | 4 => 4 | 5 => 5 | 167 => 166 | 37 => 55 | 0 => 0 | 85 => 167 | 2 => 2 | 168 => 169 | 53 => 116 | 175 => 265 | 46 => 42 | 210 => 268 | 127 => 134 | 145 => 329 | 143 => 327 | 21 => 21 | 171 => 259 | 173 => 262 | 212 => 323 | 51 => 173 | 20 => 20 | 213 => 324 | 232 => 361 | 233 => 362 | 80 => 97 | n => n, fun | 15 => 1 | 16 => 2 | 17 => 5 | 18 => 6 | 19 => 7 | n => n⟩
theorem Tryz.laysC172 : Go.Proofs.LaysC.n172 Tryz.prog Tryz.laysC172_ren := {
  mixed := by kernel_rfl
  f129 := Tryz.func275.trans (congrArg some (by kernel_rfl))
  f171 := Tryz.func43.trans (congrArg some (by kernel_rfl))
  f172 := Tryz.func47.trans (congrArg some (by kernel_rfl))
  f205 := Tryz.func222.trans (congrArg some (by kernel_rfl))
  f243 := Tryz.func88.trans (congrArg some (by kernel_rfl))
  f244 := Tryz.func91.trans (congrArg some (by kernel_rfl))
  f245 := Tryz.func92.trans (congrArg some (by kernel_rfl))
  f246 := Tryz.func145.trans (congrArg some (by kernel_rfl))
  f247 := Tryz.func148.trans (congrArg some (by kernel_rfl))
  f279 := Tryz.func149.trans (congrArg some (by kernel_rfl))
  f280 := Tryz.func150.trans (congrArg some (by kernel_rfl))
  f281 := Tryz.func151.trans (congrArg some (by kernel_rfl))
  f282 := Tryz.func152.trans (congrArg some (by kernel_rfl))
  f283 := Tryz.func213.trans (congrArg some (by kernel_rfl))
  f284 := Tryz.func214.trans (congrArg some (by kernel_rfl))
  f285 := Tryz.func215.trans (congrArg some (by kernel_rfl))
  f286 := Tryz.func216.trans (congrArg some (by kernel_rfl))
  f287 := Tryz.func220.trans (congrArg some (by kernel_rfl))
  f316 := Tryz.func221.trans (congrArg some (by kernel_rfl))
  f317 := Tryz.func274.trans (congrArg some (by kernel_rfl))
  f318 := Tryz.func276.trans (congrArg some (by kernel_rfl))
  f319 := Tryz.func277.trans (congrArg some (by kernel_rfl))
  f320 := Tryz.func278.trans (congrArg some (by kernel_rfl))
  f321 := Tryz.func280.trans (congrArg some (by kernel_rfl))
  f322 := Tryz.func281.trans (congrArg some (by kernel_rfl))
  f337 := Tryz.func301.trans (congrArg some (by kernel_rfl))
  f338 := Tryz.func302.trans (congrArg some (by kernel_rfl))
  t0 := Tryz.underlying0
  a0 := Tryz.isAgg0
  z0 := Tryz.sizeOf0
  v0 := Tryz.zeroValue0
  t2 := Tryz.underlying2
  a2 := Tryz.isAgg2
  z2 := Tryz.sizeOf2
  v2 := Tryz.zeroValue2
  t3 := Tryz.underlying3
  a3 := Tryz.isAgg3
  z3 := Tryz.sizeOf3
  v3 := Tryz.zeroValue3
  t4 := Tryz.underlying4
  a4 := Tryz.isAgg4
  z4 := Tryz.sizeOf4
  v4 := Tryz.zeroValue4
  t5 := Tryz.underlying5
  a5 := Tryz.isAgg5
  z5 := Tryz.sizeOf5
  v5 := Tryz.zeroValue5
  t9 := Tryz.underlying9
  a9 := Tryz.isAgg9
  z9 := Tryz.sizeOf9
  v9 := Tryz.zeroValue9
  t20 := Tryz.underlying20
  a20 := Tryz.isAgg20
  z20 := Tryz.sizeOf20
  v20 := Tryz.zeroValue20
  t21 := Tryz.underlying21
  a21 := Tryz.isAgg21
  z21 := Tryz.sizeOf21
  v21 := Tryz.zeroValue21
  t37 := Tryz.underlying55
  a37 := Tryz.isAgg55
  z37 := Tryz.sizeOf55
  v37 := Tryz.zeroValue55
  t46 := Tryz.underlying42
  a46 := Tryz.isAgg42
  z46 := Tryz.sizeOf42
  v46 := Tryz.zeroValue42
  t51 := Tryz.underlying173
  a51 := Tryz.isAgg173
  z51 := Tryz.sizeOf173
  v51 := Tryz.zeroValue173
  t53 := Tryz.underlying116
  a53 := Tryz.isAgg116
  z53 := Tryz.sizeOf116
  v53 := Tryz.zeroValue116
  t75 := Tryz.underlying70
  a75 := Tryz.isAgg70
  z75 := Tryz.sizeOf70
  v75 := Tryz.zeroValue70
  t76 := Tryz.underlying71
  a76 := Tryz.isAgg71
  z76 := Tryz.sizeOf71
  v76 := Tryz.zeroValue71
  t85 := Tryz.underlying167
  a85 := Tryz.isAgg167
  z85 := Tryz.sizeOf167
  v85 := Tryz.zeroValue167
  t127 := Tryz.underlying134
  a127 := Tryz.isAgg134
  z127 := Tryz.sizeOf134
  v127 := Tryz.zeroValue134
  t143 := Tryz.underlying327
  a143 := Tryz.isAgg327
  z143 := Tryz.sizeOf327
  v143 := Tryz.zeroValue327
  t145 := Tryz.underlying329
  a145 := Tryz.isAgg329
  z145 := Tryz.sizeOf329
  v145 := Tryz.zeroValue329
  t167 := Tryz.underlying166
  a167 := Tryz.isAgg166
  z167 := Tryz.sizeOf166
  v167 := Tryz.zeroValue166
  t168 := Tryz.underlying169
  a168 := Tryz.isAgg169
  z168 := Tryz.sizeOf169
  v168 := Tryz.zeroValue169
  t171 := Tryz.underlying259
  a171 := Tryz.isAgg259
  z171 := Tryz.sizeOf259
  v171 := Tryz.zeroValue259
  t173 := Tryz.underlying262
  a173 := Tryz.isAgg262
  z173 := Tryz.sizeOf262
  v173 := Tryz.zeroValue262
  t175 := Tryz.underlying265
  a175 := Tryz.isAgg265
  z175 := Tryz.sizeOf265
  v175 := Tryz.zeroValue265
  t210 := Tryz.underlying268
  a210 := Tryz.isAgg268
  z210 := Tryz.sizeOf268
  v210 := Tryz.zeroValue268
  t212 := Tryz.underlying323
  a212 := Tryz.isAgg323
  z212 := Tryz.sizeOf323
  v212 := Tryz.zeroValue323
  t213 := Tryz.underlying324
  a213 := Tryz.isAgg324
  z213 := Tryz.sizeOf324
  t232 := Tryz.underlying361
  a232 := Tryz.isAgg361
  z232 := Tryz.sizeOf361
  v232 := Tryz.zeroValue361
  t233 := Tryz.underlying362
  a233 := Tryz.isAgg362
  z233 := Tryz.sizeOf362
  v233 := Tryz.zeroValue362
  g15 := by kernel_rfl
  g16 := by kernel_rfl
  g17 := by kernel_rfl
  g18 := by kernel_rfl
  g19 := by kernel_rfl
  t80 := Tryz.underlying97
  a80 := Tryz.isAgg97
  z80 := Tryz.sizeOf97
  v80 := Tryz.zeroValue97
  i0 := by kernel_rfl
  i2 := by kernel_rfl
  i3 := by kernel_rfl
  i4 := by kernel_rfl
  i5 := by kernel_rfl
  i9 := by kernel_rfl
  i20 := by kernel_rfl
  i21 := by kernel_rfl
  i37 := by kernel_rfl
  i46 := by kernel_rfl
  i51 := by kernel_rfl
  i53 := by kernel_rfl
  i75 := by kernel_rfl
  i76 := by kernel_rfl
  i80 := by kernel_rfl
  i85 := by kernel_rfl
  i127 := by kernel_rfl
  i143 := by kernel_rfl
  i145 := by kernel_rfl
  i167 := by kernel_rfl
  i168 := by kernel_rfl
  i171 := by kernel_rfl
  i173 := by kernel_rfl
  i175 := by kernel_rfl
  i210 := by kernel_rfl
  i212 := by kernel_rfl
  i232 := by kernel_rfl
  i233 := by kernel_rfl
  m15 := by kernel_rfl
  m16 := by kernel_rfl
  m17 := by kernel_rfl
  m18 := by kernel_rfl
  m19 := by kernel_rfl
  c0 := by kernel_rfl
  c2 := by kernel_rfl
  c3 := by kernel_rfl
  c4 := by kernel_rfl
  c5 := by kernel_rfl
  c9 := by kernel_rfl
  c20 := by kernel_rfl
  c21 := by kernel_rfl
  c37 := by kernel_rfl
  c46 := by kernel_rfl
  c51 := by kernel_rfl
  c53 := by kernel_rfl
  c75 := by kernel_rfl
  c76 := by kernel_rfl
  c80 := by kernel_rfl
  c85 := by kernel_rfl
  c127 := by kernel_rfl
  c143 := by kernel_rfl
  c145 := by kernel_rfl
  c167 := by kernel_rfl
  c168 := by kernel_rfl
  c171 := by kernel_rfl
  c173 := by kernel_rfl
  c175 := by kernel_rfl
  c210 := by kernel_rfl
  c212 := by kernel_rfl
  c213 := by kernel_rfl
  c232 := by kernel_rfl
  c233 := by kernel_rfl }
open Go.RowKit in
/-- strconv.Atoi, AT EVERY STRING THAT SPELLS AN int ('Lib.atoiAll .. = .ok v'; of whatever length: leading zeros count): v, AND NO ERROR. The world: az it was, or with the one new row that '[]byte(..)' lays. (LAID: no walk: one application.) -/
theorem Tryz.strconv_Atoi_ok (s : ByteArray) (hmax : s.size ≤ 9223372036854775806) (v : Int) (h : Lib.atoiAll s.data.toList = .ok v) (w : World) :
    Calls Tryz.prog 47 #[.string s] w fun e w' => e = .returned (.tuple #[.int .i64 v, .nilIface]) ∧ (w' = w ∨ ∃ t, w' = Lib.bytesWorld w 5 t) := Any.strconv_Atoi_ok Tryz.laysC172 s hmax v h w
open Go.RowKit in
/-- strconv.Atoi, AT EVERY STRING THAT IS NO DECIMAL NUMERAL ('.syntax'): 0, AND AN ERROR THAT IS NOT nil: a *NumError in a new block N: {Func: "Atoi", Num: s's bytes, Err: what the variable ErrSyntax holds}. Of what was there nothing has turned. (LAID: no walk: one application.) -/
theorem Tryz.strconv_Atoi_syntax (s : ByteArray) (hlim : s.size ≤ 281474976710656) (h : Lib.atoiAll s.data.toList = Lib.NumEnd.syntax) (ev : Value) (w : World) (hv : w.cell? ⟨1, 0, none⟩ = some ev) (hev : ev = .nilIface ∨ ∃ te pe, ev = .iface te pe) :
    Calls Tryz.prog 47 #[.string s] w fun e w' => ∃ N, e = .returned (.tuple #[.int .i64 (0), .iface 169 (.pointer (some ⟨N, 0, none⟩))]) ∧ w.heap.size ≤ N ∧ w'.heap[N]? = some (.cells #[.string ⟨#[65, 116, 111, 105]⟩, .string s, ev] 268 (0, 0)) ∧ Below w.heap.size w w' := Any.strconv_Atoi_syntax Tryz.laysC172 s hlim h ev w hv hev
open Go.RowKit in
/-- strconv.Atoi, AT EVERY NUMERAL THAT NO int HOLDS ('.range'): THE GREATEST OR THE LEAST int, BY THE SIGN ('Lib.atoiSat'), AND AN ERROR THAT IS NOT nil: a *NumError in a new block N: {Func: "Atoi", Num: s's bytes, Err: what the variable ErrRange holds}. Of what was there nothing has turned. (LAID: no walk: one application.) -/
theorem Tryz.strconv_Atoi_range (s : ByteArray) (hlim : s.size ≤ 281474976710656) (h : Lib.atoiAll s.data.toList = .range) (ev : Value) (w : World) (hv : w.cell? ⟨2, 0, none⟩ = some ev) (hev : ev = .nilIface ∨ ∃ te pe, ev = .iface te pe) :
    Calls Tryz.prog 47 #[.string s] w fun e w' => ∃ N, e = .returned (.tuple #[.int .i64 (Lib.atoiSat s.data.toList), .iface 169 (.pointer (some ⟨N, 0, none⟩))]) ∧ w.heap.size ≤ N ∧ w'.heap[N]? = some (.cells #[.string ⟨#[65, 116, 111, 105]⟩, .string s, ev] 268 (0, 0)) ∧ Below w.heap.size w w' := Any.strconv_Atoi_range Tryz.laysC172 s hlim h ev w hv hev
def Tryz.lays105_ren : Go.Shelf.Ren := ⟨fun | 105 => 83 | 212 => 134 | 99 => 135 | 165 => 136 | 166 => 60 | 170 => 64 | 169 => 66 | 263 => 205 | 264 => 206 | 206 => 207 | 240 => 102 | 241 => 208 | 276 => 164 | 277 => 270 | n => n, fun | 9 => 9 | 3 => 3 | 4 => 4 | 20 => 20 | 0 => 0 | 46 => 42 | 109 => 154 | 5 => 5 | 72 => 88 | 76 => 71 | 51 => 173 | 146 => 252 | 53 => 116 | 148 => 254 | 70 => 86 | 37 => 55 | 75 => 70 | 127 => 134 | 164 => 188 | 80 => 97 | n => n, fun | n => n⟩
theorem Tryz.lays105 : Go.Proofs.Lays.n105 Tryz.prog Tryz.lays105_ren := {
  mixed := by kernel_rfl
  f99 := Tryz.func135.trans (congrArg some (by kernel_rfl))
  f105 := Tryz.func83.trans (congrArg some (by kernel_rfl))
  f165 := Tryz.func136.trans (congrArg some (by kernel_rfl))
  f166 := Tryz.func60.trans (congrArg some (by kernel_rfl))
  f169 := Tryz.func66.trans (congrArg some (by kernel_rfl))
  f170 := Tryz.func64.trans (congrArg some (by kernel_rfl))
  f206 := Tryz.func207.trans (congrArg some (by kernel_rfl))
  f212 := Tryz.func134.trans (congrArg some (by kernel_rfl))
  f240 := Tryz.func102.trans (congrArg some (by kernel_rfl))
  f241 := Tryz.func208.trans (congrArg some (by kernel_rfl))
  f263 := Tryz.func205.trans (congrArg some (by kernel_rfl))
  f264 := Tryz.func206.trans (congrArg some (by kernel_rfl))
  f276 := Tryz.func164.trans (congrArg some (by kernel_rfl))
  f277 := Tryz.func270.trans (congrArg some (by kernel_rfl))
  t0 := Tryz.underlying0
  a0 := Tryz.isAgg0
  z0 := Tryz.sizeOf0
  v0 := Tryz.zeroValue0
  t3 := Tryz.underlying3
  a3 := Tryz.isAgg3
  z3 := Tryz.sizeOf3
  v3 := Tryz.zeroValue3
  t4 := Tryz.underlying4
  a4 := Tryz.isAgg4
  z4 := Tryz.sizeOf4
  v4 := Tryz.zeroValue4
  t5 := Tryz.underlying5
  a5 := Tryz.isAgg5
  z5 := Tryz.sizeOf5
  v5 := Tryz.zeroValue5
  t9 := Tryz.underlying9
  a9 := Tryz.isAgg9
  z9 := Tryz.sizeOf9
  v9 := Tryz.zeroValue9
  t20 := Tryz.underlying20
  a20 := Tryz.isAgg20
  z20 := Tryz.sizeOf20
  v20 := Tryz.zeroValue20
  t37 := Tryz.underlying55
  a37 := Tryz.isAgg55
  z37 := Tryz.sizeOf55
  v37 := Tryz.zeroValue55
  t46 := Tryz.underlying42
  a46 := Tryz.isAgg42
  z46 := Tryz.sizeOf42
  v46 := Tryz.zeroValue42
  t51 := Tryz.underlying173
  a51 := Tryz.isAgg173
  z51 := Tryz.sizeOf173
  v51 := Tryz.zeroValue173
  t53 := Tryz.underlying116
  a53 := Tryz.isAgg116
  z53 := Tryz.sizeOf116
  v53 := Tryz.zeroValue116
  t70 := Tryz.underlying86
  a70 := Tryz.isAgg86
  z70 := Tryz.sizeOf86
  v70 := Tryz.zeroValue86
  t72 := Tryz.underlying88
  a72 := Tryz.isAgg88
  z72 := Tryz.sizeOf88
  v72 := Tryz.zeroValue88
  t75 := Tryz.underlying70
  a75 := Tryz.isAgg70
  z75 := Tryz.sizeOf70
  v75 := Tryz.zeroValue70
  t76 := Tryz.underlying71
  a76 := Tryz.isAgg71
  z76 := Tryz.sizeOf71
  v76 := Tryz.zeroValue71
  t109 := Tryz.underlying154
  a109 := Tryz.isAgg154
  z109 := Tryz.sizeOf154
  v109 := Tryz.zeroValue154
  t127 := Tryz.underlying134
  a127 := Tryz.isAgg134
  z127 := Tryz.sizeOf134
  v127 := Tryz.zeroValue134
  t146 := Tryz.underlying252
  a146 := Tryz.isAgg252
  z146 := Tryz.sizeOf252
  v146 := Tryz.zeroValue252
  t148 := Tryz.underlying254
  a148 := Tryz.isAgg254
  z148 := Tryz.sizeOf254
  v148 := Tryz.zeroValue254
  t164 := Tryz.underlying188
  a164 := Tryz.isAgg188
  z164 := Tryz.sizeOf188
  v164 := Tryz.zeroValue188 }
theorem Tryz.Builder_Extra_105 : Builder.Extra Tryz.prog Tryz.lays105_ren := {
  sizeBuilder := by kernel_rfl
  liesBuilder := by kernel_rfl
  t5 := Tryz.underlying5
  a5 := Tryz.isAgg5
  z5 := Tryz.sizeOf5
  v5 := Tryz.zeroValue5
  infoByte := by kernel_rfl
  cellsByte := by kernel_rfl
  sizeByte := by kernel_rfl
  neB5 := by decide }
open Go.RowKit Go.Lib in
/-- **strings.Repeat: count ≥ 0, the result within one allocation: count copies of s.** (LAID: no walk: one application.) -/
theorem Tryz.strings_Repeat (s : ByteArray) (c : Nat) (w : World) (hc : c ≤ 9223372036854775807) (hlen : s.size * c ≤ 140737488355328) :
    Calls Tryz.prog 83 #[.string s, .int .i64 c] w fun e w' => e = .returned (.string ⟨(Lib.repeatL s.data.toList c).toArray⟩) ∧ Below w.heap.size w w' := Any.strings_Repeat Tryz.lays105 Tryz.Builder_Extra_105 s c w hc hlen
end Go.Proofs
end

section
set_option maxRecDepth 100000
namespace Go.Proofs.YtffcfaabjodpcaaGreatDoor.X
open Go Go.Rlm
theorem mixed : Tryz.prog.follows .mixedOrders = true := by kernel_rfl
theorem named : Tryz.prog.funcs.all (fun fn => !(fn.name == "runtime.NumGoroutine")) = true := by kernel_rfl
theorem spec0 {G : Keep} : SpecOk G Tryz.prog T :=
  .more (repeat_ok Tryz.func83 rfl (by decide) (fun s c w h1 h2 => Tryz.strings_Repeat s c w h1 h2)) <|
  .more (.ext (by decide) fun _ _ _ _ h => sameSpec_ok Tryz.func164 (by kernel_rfl) (by kernel_rfl) (by kernel_rfl) (by kernel_rfl) h) <|
  .more (.ext (by decide) fun _ _ _ _ h => idxSpec_ok Tryz.func147 (by kernel_rfl) (by kernel_rfl) (by kernel_rfl) (by kernel_rfl) h) <|
  .more (.ext (by decide) fun _ _ _ _ h => rawSpec_ok (ps := #[3]) Tryz.func270 (by kernel_rfl) (by kernel_rfl) (by kernel_rfl) Tryz.underlying55 (by kernel_rfl) (by kernel_rfl) h) .nil
end Go.Proofs.YtffcfaabjodpcaaGreatDoor.X
end

section
namespace Go.Rlm
open Go.RowKit Go.Sort
/-- The decimal digits of a number of at most d + 1 digits. -/
def decD : Nat → Nat → List UInt8
  | 0, u => [UInt8.ofNat (48 + u % 10)]
  | d + 1, u => bif Nat.blt u 10 then [UInt8.ofNat (48 + u)] else decD d (u / 10) ++ [UInt8.ofNat (48 + u % 10)]
theorem decD_eq : ∀ (d u : Nat), u < 10 ^ (d + 1) → decD d u = Lib.decDigits u
  | 0, u, h => by
    rw [Lib.decDigits, dif_pos (by simpa using h)]
    unfold decD
    rw [Nat.mod_eq_of_lt (by simpa using h)]
  | d + 1, u, h => by
    unfold decD
    rw [Lib.decDigits]
    by_cases hu : u < 10
    · rw [dif_pos hu, show Nat.blt u 10 = true by simpa using hu, cond_true]
    · rw [dif_neg hu, show Nat.blt u 10 = false by
        cases hq : Nat.blt u 10 with
        | false => rfl
        | true => have := Nat.le_of_ble_eq_true hq; omega
      , cond_false, decD_eq d (u / 10) (by rw [Nat.pow_succ] at h; omega)]
def itoaS (n : Nat) : ByteArray := ⟨(decD 20 n).toArray⟩
def itoaP : PSpec := fun args L =>
  match args with
  | [.int .i64 n] => some (.gate (decide (0 ≤ n) && decide (n < 1000000000000000000)) (.string (itoaS n.toNat)) L)
  | _ => none
theorem itoa_ok {G : Keep} {P : Program} {f : Nat} {fn : Func} {c : Code} (hfn : P.funcs[f]? = some fn) (hb : fn.body = some c) (hf : f < YB)
    (h : ∀ (n : Int) (w : World), -9223372036854775808 ≤ n → n ≤ 9223372036854775807 → G.J w → Calls P f #[.int .i64 n] w fun e w' => e = .returned (.string ⟨(Lib.itoa n).toArray⟩) ∧ ∃ k os, w' = grow (w.drewN k) os) : PureOk G P f itoaP :=
  .below hfn hb hf fun args L r0 r hr hreal => by
    unfold itoaP at hr
    split at hr
    case h_2 => cases hr
    rename_i n
    injection hr with hr
    subst hr
    obtain ⟨h1, rfl⟩ := gate_real hreal
    simp only [Bool.and_eq_true, decide_eq_true_eq] at h1
    refine ⟨_, rfl, rfl, rfl, fun w hJ => ?_⟩
    refine (h n w (by omega) (by omega) hJ).mono fun e w' ⟨he, k, os, hw⟩ => ?_
    refine ⟨?_, ?_⟩
    · rw [he, Lib.itoa, if_neg (by omega), itoaS, decD_eq 20 n.toNat (by omega)]
    · subst hw
      exact ⟨rfl, rfl, rfl, by simp [grow, World.drewN], fun b hb => by simp [grow, World.drewN]; exact Array.getElem?_append_left (by simpa using hb)⟩
def atoiOk (s : ByteArray) : Bool :=
  match Lib.atoiAll s.data.toList with
  | .ok _ => true
  | _ => false
def atoiVal (s : ByteArray) : Int :=
  match Lib.atoiAll s.data.toList with
  | .ok v => v
  | .range => Lib.atoiSat s.data.toList
  | _ => 0
/-- tE: the type of the errors. -/
def atoiP (tE : TypeId) : PSpec := fun args L =>
  match args with
  | [.string s] => some (.alt (Nat.ble s.size 281474976710656) (atoiOk s) (.tuple #[.int .i64 (atoiVal s), .nilIface]) L
      (.tuple #[.int .i64 (atoiVal s), .iface tE (.pointer (some ⟨L.length, 0, none⟩))]) (L ++ [.dead]))
  | _ => none
/-- A name for a block of which nothing is known. -/
theorem Rep.name {P : Program} {m : RMap} {L : LHeap} {w w' : World} (h : Rep P m L w) (i : Info) (hb : Go.RowKit.Below w.heap.size w w') :
    Rep P (ins m L.length i) (L ++ [.dead]) w' ∧ Tr m L w (ins m L.length i) (L ++ [.dead]) w' ∧ ins m L.length i L.length = some i := by
  obtain ⟨b1, b2, b3, b4, b5⟩ := hb
  have hext := MExt.ins (m := m) (r := L.length) i (h.fresh _ (Nat.le_refl _))
  have hg := h.grow b5
  have hget : ∀ r b, b ≠ .dead → (L ++ [LBlk.dead])[r]? = some b → r < L.length ∧ L[r]? = some b := fun r b hne hr => by
    rcases Nat.lt_trichotomy r L.length with h1 | h1 | h1
    · rw [List.getElem?_append_left h1] at hr; exact ⟨h1, hr⟩
    · subst h1; rw [List.getElem?_append_right (Nat.le_refl _)] at hr; simp at hr; exact absurd hr.symm hne
    · rw [List.getElem?_eq_none (by simp; omega)] at hr; cases hr
  have hins : ∀ r j, r < L.length → ins m L.length i r = some j → m r = some j := fun r j hr hm => by
    unfold Rlm.ins at hm; rw [if_neg (by omega)] at hm; exact hm
  have hloop : ∀ (r : Nat) (b : LBlk), aside b = true → (L ++ [LBlk.dead])[r]? = some b → L[r]? = some b := fun r b hab hr =>
    (hget r b (fun e => by rw [e] at hab; cases hab) hr).2
  refine ⟨⟨fun r hr => ?_, fun r cs e ro sp hr => ?_, fun r r' j j' h1 h2 h3 h4 h5 => ?_, hg.loops.keep hext hloop fun _ _ _ h => h⟩, .of h hext (by simp) b4 b1 b2 b3 (fun r j h1 h2 => ?_) (fun b hb _ => b5 b hb) hloop, by unfold Rlm.ins; rw [if_pos rfl]⟩
  · simp at hr
    unfold Rlm.ins
    rw [if_neg (by omega)]
    exact h.fresh r (by omega)
  · obtain ⟨g1, g2⟩ := hget r _ (fun e => by cases e) hr
    obtain ⟨j, k1, k2⟩ := hg.row r cs e ro sp g2
    exact ⟨j, hext _ _ k1, ⟨let ⟨cp, e', fz, q1, q2, q3⟩ := k2.there; ⟨cp, e', fz, q1, fun x v hv => let ⟨v', q4, q5⟩ := q2 x v hv; ⟨v', q4, q5.mono hext⟩, q3⟩, k2.ones⟩⟩
  · obtain ⟨c1, c2, c3, c4⟩ := h1
    obtain ⟨d1, d2, d3, d4, d5⟩ := h2
    obtain ⟨g1, g2⟩ := hget r _ (fun e => by cases e) c4
    obtain ⟨k1, k2⟩ := hget r' _ (fun e => by cases e) d5
    exact h.sep r r' j j' ⟨_, _, _, g2⟩ ⟨_, _, _, _, k2⟩ h3 (hins _ _ g1 h4) (hins _ _ k1 h5)
  · obtain ⟨c1, c2, c3, c4⟩ := h1
    obtain ⟨g1, g2⟩ := hget r _ (fun e => by cases e) c4
    exact .inl ⟨r, j, ⟨_, _, _, g2⟩, hins _ _ g1 h2, rfl⟩
theorem atoi_ok {G : Keep} {P : Program} {tE eb : TypeId} {f : Nat} {fn : Func} {c : Code} (hfn : P.funcs[f]? = some fn) (hb : fn.body = some c) (hf : f < YB)
    (h1 : ∀ (s : ByteArray), s.size ≤ 9223372036854775806 → ∀ v, Lib.atoiAll s.data.toList = .ok v → ∀ w, Calls P f #[.string s] w fun e w' => e = .returned (.tuple #[.int .i64 v, .nilIface]) ∧ (w' = w ∨ ∃ t, w' = Lib.bytesWorld w eb t))
    (h2 : ∀ (s : ByteArray), s.size ≤ 281474976710656 → (∀ v, Lib.atoiAll s.data.toList ≠ .ok v) → ∀ w, G.J w →
      Calls P f #[.string s] w fun e w' => ∃ N, e = .returned (.tuple #[.int .i64 (atoiVal s), .iface tE (.pointer (some ⟨N, 0, none⟩))]) ∧ Go.RowKit.Below w.heap.size w w') : PureOk G P f (atoiP tE) := by
  refine ⟨hf, fun args L r0 r hr hreal => .inl ⟨⟨fn, c, hfn, hb⟩, fun m w args' hrep hg hv => ?_⟩⟩
  unfold atoiP at hr
  split at hr
  case h_2 => cases hr
  rename_i s
  injection hr with hr
  subst hr
  cases hv with
  | cons hx hs =>
    cases hs
    rw [hx.of_string]
    obtain ⟨hsz, hreal⟩ := alt_real hreal
    have hsz := Nat.le_of_ble_eq_true hsz
    rcases hreal with ⟨ho, rfl⟩ | ⟨ho, rfl⟩
    · have hv : ∃ v, Lib.atoiAll s.data.toList = .ok v := by
        unfold atoiOk at ho
        split at ho
        · exact ⟨_, by assumption⟩
        · cases ho
      obtain ⟨v, hv⟩ := hv
      have e : atoiVal s = v := by unfold atoiVal; rw [hv]
      rw [e]
      refine (h1 s (by omega) v hv w).mono fun e w' ⟨he, hw⟩ => ?_
      have hbel : Go.RowKit.Below w.heap.size w w' := by
        rcases hw with rfl | ⟨t, rfl⟩
        · exact .refl _ _
        · exact Lib.bytesWorld_below w eb t
      obtain ⟨k1, k2, k3, k4, k5⟩ := hbel
      exact ⟨m, _, he, VR.plain rfl, hrep.grow k5, .of hrep (.refl m) (Nat.le_refl _) k4 k1 k2 k3 (fun r i h6 h7 => .inl ⟨r, i, h6, h7, rfl⟩) (fun b hb _ => k5 b hb) (fun r b _ h => h)⟩
    · have hv : ∀ v, Lib.atoiAll s.data.toList ≠ .ok v := fun v e => by
        unfold atoiOk at ho
        rw [e] at ho
        cases ho
      refine (h2 s hsz hv w hg.1).mono fun e w' ⟨N, he, hw⟩ => ?_
      obtain ⟨g1, g2, g3⟩ := hrep.name ⟨N, 0, 0, 0⟩ hw
      refine ⟨_, _, he, .tuple (cs := [_, _]) (cs' := [_, _]) (.cons (.flat1 rfl) (.cons (.iface ?_) .nil)), g1, g2⟩
      exact VR.ptr (a := ⟨L.length, 0, none⟩) g3
end Go.Rlm
end

section
set_option maxRecDepth 100000
namespace Go.Proofs.YtffcfaabjodpcaaGreatDoor
open Go Go.Rlm
/-- The errors of strconv are errors, the powers of ten are these. -/
def globs : Keep where
  S b := b = 1 ∨ b = 2 ∨ b = 5
  J w := (∃ t p, w.cell? ⟨1, 0, none⟩ = some (.iface t p)) ∧ (∃ t p, w.cell? ⟨2, 0, none⟩ = some (.iface t p)) ∧ Lib.TabIs Tryz.prog w "internal/strconv.uint64pow10" .u64 Lib.pow10Tab
  frame := fun w w' ⟨⟨t1, p1, h1⟩, ⟨t2, p2, h2⟩, h3⟩ hS => by
    have g : Tryz.prog.globalNamed "internal/strconv.uint64pow10" = some 5 := by kernel_rfl
    refine ⟨⟨t1, p1, ?_⟩, ⟨t2, p2, ?_⟩, ?_⟩
    · simp only [World.cell?, hS 1 (.inl rfl)] at h1 ⊢; exact h1
    · simp only [World.cell?, hS 2 (.inr (.inl rfl))] at h2 ⊢; exact h2
    · unfold Lib.TabIs World.var? at h3 ⊢
      rw [g] at h3 ⊢
      simp only [Option.bind_some, hS 5 (.inr (.inr rfl))] at h3 ⊢
      exact h3
  there := fun w ⟨⟨t1, p1, h1⟩, ⟨t2, p2, h2⟩, h3⟩ b hb => by
    have g : Tryz.prog.globalNamed "internal/strconv.uint64pow10" = some 5 := by kernel_rfl
    have at_ : ∀ (b : Nat) (v : Value), w.cell? ⟨b, 0, none⟩ = some v → b < w.heap.size := fun b v h => by
      rcases Nat.lt_or_ge b w.heap.size with h' | h'
      · exact h'
      · simp [World.cell?, Array.getElem?_eq_none h'] at h
    rcases hb with rfl | rfl | rfl
    · exact at_ _ _ h1
    · exact at_ _ _ h2
    · exact at_ _ _ (h3.cell g 0 (by decide))
theorem star : "*" ++ "errors.errorString" = "*errors.errorString" := by decide
theorem errRow (u : TypeId) (h : Tryz.prog.typeName? 3 u = some "*errors.errorString") : u = 327 :=
  typeName_ptr_named (nm := "errors.errorString") (by rw [star]; kernel_rfl) (by kernel_rfl) (by decide) u (by rw [star]; exact h)
theorem globs_of {w : World} (h : laidMetH Tryz.prog [("math/bits.deBruijn32tab", Rows.laid_math_bits_deBruijn32tab), ("math/bits.deBruijn64tab", Rows.laid_math_bits_deBruijn64tab), ("internal/strconv.uint64pow10", Rows.laid_internal_strconv_uint64pow10), ("unicode/utf8.acceptRanges", Rows.laid_unicode_utf8_acceptRanges), ("strconv.ErrRange", Rows.laid_strconv_ErrRange), ("strconv.ErrSyntax", Rows.laid_strconv_ErrSyntax), ("unicode/utf8.first", Rows.laid_unicode_utf8_first)] w) : globs.J w := by
  rw [MakeChecks.laidMetH_plain _ _ _ (by kernel_rfl)] at h
  have h3 := h.tail.tail
  have h5 := h3.tail.tail
  have h6 := h5.tail
  have ht := Lib.tabIs_of_head (zs := Lib.pow10Tab) (k := .u64) (g := 5) (t := 323) (e := 116) (n := 20) (by kernel_rfl) (by kernel_rfl) Tryz.underlying323 Tryz.underlying116 (by kernel_rfl) (by kernel_rfl) h3
  obtain ⟨a1, s1, v1, _⟩ := laid_sentinel (g := 2) (ti := 70) (tp := 327) (te := 329) (ts := 9) h5 (by kernel_rfl) (by kernel_rfl) Tryz.underlying70 errRow Tryz.underlying327 Tryz.underlying329 rfl rfl Tryz.underlying9 (by kernel_rfl) (by kernel_rfl)
  obtain ⟨a2, s2, v2, _⟩ := laid_sentinel (g := 1) (ti := 70) (tp := 327) (te := 329) (ts := 9) h6 (by kernel_rfl) (by kernel_rfl) Tryz.underlying70 errRow Tryz.underlying327 Tryz.underlying329 rfl rfl Tryz.underlying9 (by kernel_rfl) (by kernel_rfl)
  have c1 := World.var?_cell (by kernel_rfl : Tryz.prog.globalNamed "strconv.ErrSyntax" = some 1) v2 0
  have c2 := World.var?_cell (by kernel_rfl : Tryz.prog.globalNamed "strconv.ErrRange" = some 2) v1 0
  exact ⟨⟨_, _, c1⟩, ⟨_, _, c2⟩, ht⟩
theorem pureItoa : PureOk globs Tryz.prog 43 itoaP :=
  itoa_ok Tryz.func43 rfl (by decide) fun n w h1 h2 hJ => Tryz.strconv_Itoa n h1 h2 w hJ.2.2
theorem pureAtoi : PureOk globs Tryz.prog 47 (atoiP 169) :=
  atoi_ok (eb := 5) Tryz.func47 rfl (by decide) (fun s hs v hv w => Tryz.strconv_Atoi_ok s hs v hv w) fun s hs hv w hJ => by
    obtain ⟨⟨t1, p1, h1⟩, ⟨t2, p2, h2⟩, _⟩ := hJ
    cases h : Lib.atoiAll s.data.toList
    case ok v => exact absurd h (hv v)
    case range =>
      refine (Tryz.strconv_Atoi_range s hs h _ w h2 (.inr ⟨t2, p2, rfl⟩)).mono fun e w' ⟨N, he, _, _, hb⟩ => ⟨N, ?_, hb⟩
      rw [he]; unfold atoiVal; rw [h]
    refine (Tryz.strconv_Atoi_syntax s hs h _ w h1 (.inr ⟨t1, p1, rfl⟩)).mono fun e w' ⟨N, he, _, _, hb⟩ => ⟨N, ?_, hb⟩
    rw [he]; unfold atoiVal; rw [h]
end Go.Proofs.YtffcfaabjodpcaaGreatDoor
end

section
set_option maxRecDepth 100000
set_option linter.unusedVariables false
namespace Go.Proofs.YtffcfaabjodpcaaGreatDoor.X
open Go Go.Rlm
/-- hamper/hamperref26.Shape -/
noncomputable def f53 (k : Nat) (n0 : Int) (n1 : Int) (n2 : Int) (n3 : Int) : R :=
  lpure Tryz.prog T k 53 [Value.agg #[Value.int IntKind.i64 n0, Value.int IntKind.i64 n1, Value.int IntKind.i64 n2, Value.int IntKind.i64 n3]]
/-- hamper/sector.Shape -/
noncomputable def f97 (k : Nat) (n0 : Int) (n1 : Int) (n2 : Int) (n3 : Int) : R :=
  lpure Tryz.prog T k 97 [Value.agg #[Value.int IntKind.i64 n0, Value.int IntKind.i64 n1, Value.int IntKind.i64 n2, Value.int IntKind.i64 n3]]
theorem f53_eq (k : Nat) (n0 : Int) (n1 : Int) (n2 : Int) (n3 : Int) : f53 k n0 n1 n2 n3 =
 lif (decide (n0 ≥ 1))
 (lif (decide (n0 ≤ 64))
 (lif (decide (n1 ≥ 0))
 (lif (decide (n1 ≤ 32))
 (lif (decide (n2 ≥ 2))
 (lif (decide (n2 ≤ 512)) (lif (Int.tmod n2 2 == 0) (lif (decide (n3 ≥ 0)) (ok (Value.bool (decide (n3 ≤ 32)))) (ok (Value.bool false))) (ok (Value.bool false))) (ok (Value.bool false)))
 (ok (Value.bool false)))
 (ok (Value.bool false)))
 (ok (Value.bool false)))
 (ok (Value.bool false)))
 (ok (Value.bool false)) := by kernel_rfl
theorem f97_eq (k : Nat) (n0 : Int) (n1 : Int) (n2 : Int) (n3 : Int) : f97 k n0 n1 n2 n3 =
 lif (decide (n0 ≥ 1))
 (lif (decide (n0 ≤ 64))
 (lif (decide (n1 ≥ 0))
 (lif (decide (n1 ≤ 32))
 (lif (decide (n2 ≥ 2))
 (lif (decide (n2 ≤ 512)) (lif (Int.tmod n2 2 == 0) (lif (decide (n3 ≥ 0)) (ok (Value.bool (decide (n3 ≤ 32)))) (ok (Value.bool false))) (ok (Value.bool false))) (ok (Value.bool false)))
 (ok (Value.bool false)))
 (ok (Value.bool false)))
 (ok (Value.bool false)))
 (ok (Value.bool false)))
 (ok (Value.bool false)) := by kernel_rfl
end Go.Proofs.YtffcfaabjodpcaaGreatDoor.X
end

section
namespace Go.Rlm
/-- May a shape be? -/
def shapeB (d r z m : Int) : Bool := decide (d ≥ 1) && decide (d ≤ 64) && decide (r ≥ 0) && decide (r ≤ 32) && decide (z ≥ 2) && decide (z ≤ 512) && (z.tmod 2 == 0) && decide (m ≥ 0) && decide (m ≤ 32)
def shapeP : PSpec := fun args L =>
  match args with
  | [.agg ⟨[.int .i64 d, .int .i64 r, .int .i64 z, .int .i64 m]⟩] => some (.ret (.bool (shapeB d r z m)) L)
  | _ => none
theorem shapeB_iff {d r z m : Int} : shapeB d r z m = true ↔ 1 ≤ d ∧ d ≤ 64 ∧ 0 ≤ r ∧ r ≤ 32 ∧ 2 ≤ z ∧ z ≤ 512 ∧ z.tmod 2 = 0 ∧ 0 ≤ m ∧ m ≤ 32 := by
  simp [shapeB, and_assoc]
end Go.Rlm
end

section
namespace Go.Rlm
def bs (l : List UInt8) : ByteArray := ⟨l.toArray⟩
theorem bs_data (s : ByteArray) : bs s.data.toList = s := rfl
theorem bs_toList (l : List UInt8) : (bs l).data.toList = l := rfl
theorem bs_size (l : List UInt8) : (bs l).size = l.length := by simp [bs, ByteArray.size]
theorem size_data (s : ByteArray) : s.size = s.data.toList.length := rfl
theorem bs_app (a b : List UInt8) : bs a ++ bs b = bs (a ++ b) := by
  apply ByteArray.ext
  rw [ByteArray.data_append]
  simp [bs]
theorem bs_extract (l : List UInt8) (i j : Nat) : (bs l).extract i j = bs ((l.take j).drop i) := by
  apply ByteArray.ext
  rw [ByteArray.data_extract]
  simp [bs, List.drop_take]
/-- The first c: what stands ahead of it, and behind it. -/
def partC (c : UInt8) : List UInt8 → Option (List UInt8 × List UInt8)
  | [] => none
  | x :: xs => bif x.toNat == c.toNat then some ([], xs) else (partC c xs).map fun p => (x :: p.1, p.2)
theorem partC_some {c : UInt8} : ∀ {l a b : List UInt8}, partC c l = some (a, b) → l = a ++ c :: b ∧ c ∉ a
  | [], a, b, h => by cases h
  | x :: xs, a, b, h => by
    unfold partC at h
    cases hx : (x.toNat == c.toNat) with
    | true =>
      rw [hx, cond_true] at h
      injection h with h
      injection h with h1 h2
      subst h1; subst h2
      have : x = c := UInt8.toNat_inj.1 (by simpa using hx)
      subst this
      exact ⟨rfl, by simp⟩
    | false =>
      rw [hx, cond_false] at h
      cases hp : partC c xs with
      | none => rw [hp] at h; cases h
      | some p =>
        rw [hp] at h
        injection h with h
        injection h with h1 h2
        subst h1; subst h2
        obtain ⟨k1, k2⟩ := partC_some hp
        have hne : x ≠ c := fun e => by rw [e] at hx; simp at hx
        exact ⟨by rw [List.cons_append, ← k1], by simp [k2, hne.symm]⟩
theorem partC_none {c : UInt8} : ∀ {l : List UInt8}, partC c l = none → c ∉ l
  | [], _ => by simp
  | x :: xs, h => by
    unfold partC at h
    cases hx : (x.toNat == c.toNat) with
    | true => rw [hx, cond_true] at h; cases h
    | false =>
      rw [hx, cond_false] at h
      cases hp : partC c xs with
      | some p => rw [hp] at h; cases h
      | none =>
        have hne : x ≠ c := fun e => by rw [e] at hx; simp at hx
        simp [partC_none hp, hne.symm]
theorem partC_of {c : UInt8} : ∀ {a b : List UInt8}, c ∉ a → partC c (a ++ c :: b) = some (a, b)
  | [], b, _ => by unfold partC; simp
  | x :: a, b, h => by
    have hx : (x.toNat == c.toNat) = false := by
      have : x ≠ c := fun e => h (by simp [e])
      simpa [UInt8.toNat_inj] using this
    rw [List.cons_append]
    unfold partC
    rw [hx, cond_false, partC_of (fun hc => h (by simp [hc]))]
    rfl
theorem firstIdx_bs (l : List UInt8) (c : UInt8) : firstIdx (bs l) c = (match partC c l with | some p => (p.1.length : Int) | none => -1) := by
  have hget : ∀ i, i < l.length → (bs l)[i]! = l[i]! := fun i hi => by
    have h1 : i < (bs l).size := by rw [bs_size]; exact hi
    rw [getElem!_pos (bs l) i h1, getElem!_pos l i hi]
    simp [bs, ByteArray.getElem_eq_getElem_data]
  unfold firstIdx
  cases h : partC c l with
  | none =>
    have hn := partC_none h
    have : (List.range (bs l).size).find? (fun i => (bs l)[i]! == c) = none := by
      rw [List.find?_eq_none]
      intro i hi
      have hi : i < l.length := by simpa [bs_size] using hi
      rw [hget i hi, getElem!_pos l i hi]
      simp only [beq_iff_eq]
      exact fun e => hn (e ▸ List.getElem_mem hi)
    rw [this]
  | some p =>
    obtain ⟨a, b⟩ := p
    obtain ⟨h1, h2⟩ := partC_some h
    have : (List.range (bs l).size).find? (fun i => (bs l)[i]! == c) = some a.length := by
      rw [List.find?_range_eq_some]
      refine ⟨?_, ?_, fun j hj => ?_⟩
      · rw [hget _ (by rw [h1]; simp)]
        simp [h1]
      · rw [List.mem_range, bs_size, h1]; simp
      · rw [hget _ (by rw [h1]; simp; omega), getElem!_pos l j (by rw [h1]; simp; omega)]
        simp only [h1, List.getElem_append_left hj]
        simp only [Bool.not_eq_true', beq_eq_false_iff_ne]
        exact fun e => h2 (e ▸ List.getElem_mem hj)
    rw [this]
def indexP : PSpec := fun args L =>
  match args with
  | [.string s, .int .u8 c] => some (.ret (.int .i64 (firstIdx s c.toNat.toUInt8)) L)
  | _ => none
def cutA (s : ByteArray) (c : UInt8) : ByteArray := match partC c s.data.toList with | some p => bs p.1 | none => s
def cutB (s : ByteArray) (c : UInt8) : ByteArray := match partC c s.data.toList with | some p => bs p.2 | none => ⟨#[]⟩
/-- strings.Cut at one byte. -/
def cutP : PSpec := fun args L =>
  match args with
  | [.string s, .string ⟨⟨[c]⟩⟩] => some (.gate (Nat.ble s.size 1000000000000) (.tuple #[.string (cutA s c), .string (cutB s c), .bool (partC c s.data.toList).isSome]) L)
  | _ => none
structure Plc where
  base : ByteArray
  idx : Int
  k : Int
  d : Int
  r : Int
  z : Int
  m : Int
def Plc.val (p : Plc) : Value := .agg #[.string p.base, .int .i64 p.idx, .int .i64 p.k, .int .i64 p.d, .int .i64 p.r, .int .i64 p.z, .int .i64 p.m]
def badC (n : Int) : Bool := (decide (n < 97) || decide (n > 122)) && (decide (n < 48) || decide (n > 57)) && (n != 95)
def badP : PSpec := fun args L =>
  match args with
  | [.int .u8 n] => some (.ret (.bool (badC n)) L)
  | _ => none
def placeB (p : Plc) : Bool := shapeB p.d p.r p.z p.m && !(p.base.size == 0) && !(decide (p.base.size > 60)) && !(decide (p.k < 1)) && !(decide (p.k > 96 - p.m)) && !(decide (p.idx < 0)) && !(decide (p.idx ≥ p.k + p.m)) &&
  !(p.base.data.toList.any fun c => badC c.toNat)
def placeP : PSpec := fun args L =>
  match args with
  | [.agg ⟨[.string b, .int .i64 i, .int .i64 k, .int .i64 d, .int .i64 r, .int .i64 z, .int .i64 m]⟩] => some (.ret (.bool (placeB ⟨b, i, k, d, r, z, m⟩)) L)
  | _ => none
def numbersP : PSpec := fun args L =>
  match args with
  | [.agg ⟨[.string _, .int .i64 i, .int .i64 k, .int .i64 d, .int .i64 r, .int .i64 z, .int .i64 m]⟩] =>
    some (.ret (.agg #[.int .i64 d, .int .i64 r, .int .i64 z, .int .i64 m, .int .i64 k, .int .i64 i]) L)
  | _ => none
/-- A place's name. -/
def nameL (p : Plc) : List UInt8 :=
  p.base.data.toList ++ 46 :: (100 :: decD 20 p.d.toNat ++ 114 :: decD 20 p.r.toNat ++ 115 :: decD 20 p.z.toNat ++ 109 :: decD 20 p.m.toNat ++ 107 :: decD 20 p.k.toNat ++ 118 :: decD 20 p.idx.toNat)
def nameS (p : Plc) : ByteArray := bif placeB p then bs (nameL p) else ⟨#[]⟩
def nameE (p : Plc) : Int := bif placeB p then 0 else 1
def nameP : PSpec := fun args L =>
  match args with
  | [.agg ⟨[.string b, .int .i64 i, .int .i64 k, .int .i64 d, .int .i64 r, .int .i64 z, .int .i64 m]⟩] =>
    some (.ret (.tuple #[.string (nameS ⟨b, i, k, d, r, z, m⟩), .int .i64 (nameE ⟨b, i, k, d, r, z, m⟩)]) L)
  | _ => none
/-- One number of a name, and what stands behind it: the next letter, if there is one. -/
def parse1 (l : List UInt8) (next : Option UInt8) : Option (Int × List UInt8) :=
  match next with
  | none => bif l.isEmpty then none else bif atoiOk (bs (l.drop 1)) then some (atoiVal (bs (l.drop 1)), []) else none
  | some c =>
    match partC c l with
    | some (a, b) => bif a.isEmpty then none else bif atoiOk (bs (a.drop 1)) then some (atoiVal (bs (a.drop 1)), c :: b) else none
    | none => none
/-- The six numbers. -/
def parse6 (l : List UInt8) : Option (Int × Int × Int × Int × Int × Int) := do
  let (d, l) ← parse1 l (some 114)
  let (r, l) ← parse1 l (some 115)
  let (z, l) ← parse1 l (some 109)
  let (m, l) ← parse1 l (some 107)
  let (k, l) ← parse1 l (some 118)
  let (i, _) ← parse1 l none
  some (d, r, z, m, k, i)
def noPlc : Plc := ⟨⟨#[]⟩, 0, 0, 0, 0, 0, 0⟩
def parseO (s : ByteArray) : Option Plc :=
  match parse6 (cutB s 46).data.toList with
  | some (d, r, z, m, k, i) =>
    let p : Plc := ⟨cutA s 46, i, k, d, r, z, m⟩
    bif (nameE p == 0) && ((nameS p).toList == s.toList) then some p else none
  | none => none
def parseF (s : ByteArray) : Plc := (parseO s).getD noPlc
def parseE (s : ByteArray) : Int := bif (parseO s).isSome then 0 else 4
def parseP : PSpec := fun args L =>
  match args with
  | [.string s] => some (.gate (Nat.ble s.size 1000000000000) (.tuple #[.agg #[.string (parseF s).base, .int .i64 (parseF s).idx, .int .i64 (parseF s).k, .int .i64 (parseF s).d, .int .i64 (parseF s).r, .int .i64 (parseF s).z, .int .i64 (parseF s).m],
      .int .i64 (parseE s)]) L)
  | _ => none
end Go.Rlm
end

section
namespace Go.Rlm
def bitsOf (v n : Nat) : List Bool := (List.range n).map fun i => v.testBit (n - 1 - i)
@[simp] theorem bitsOf_length (v n : Nat) : (bitsOf v n).length = n := by simp [bitsOf]
@[simp] theorem bitsOf_zero (v : Nat) : bitsOf v 0 = [] := rfl
/-- The bytes' bits are these, noughts behind them. -/
def Packs (vs : List Nat) (bs : List Bool) : Prop :=
  vs.length = (bs.length + 7) / 8 ∧ ∀ i, i < vs.length → vs.getD i 0 < 256 ∧ ∀ k, k < 8 → (vs.getD i 0).testBit (7 - k) = bs.getD (8 * i + k) false
/-- There is room for one bit more. -/
def PacksR (vs : List Nat) (bs : List Bool) : Prop :=
  vs.length = bs.length / 8 + 1 ∧ ∀ i, i < vs.length → vs.getD i 0 < 256 ∧ ∀ k, k < 8 → (vs.getD i 0).testBit (7 - k) = bs.getD (8 * i + k) false
theorem Packs.nil : Packs [] [] := ⟨rfl, fun i hi => by simp at hi⟩
theorem Packs.room {vs : List Nat} {bs : List Bool} (h : Packs vs bs) (h8 : bs.length % 8 ≠ 0) : PacksR vs bs := ⟨by have := h.1; omega, h.2⟩
theorem PacksR.put {vs : List Nat} {bs : List Bool} (h : PacksR vs bs) (x : Bool) :
    Packs (vs.set (vs.length - 1) (vs.getD (vs.length - 1) 0 ||| x.toNat * 2 ^ (7 - bs.length % 8))) (bs ++ [x]) := by
  have h1 := h.1
  refine ⟨by simp; omega, fun i hi => ?_⟩
  simp only [List.length_set] at hi
  by_cases hl : i = vs.length - 1
  · subst hl
    rw [show (vs.set (vs.length - 1) (vs.getD (vs.length - 1) 0 ||| x.toNat * 2 ^ (7 - bs.length % 8))).getD (vs.length - 1) 0 = vs.getD (vs.length - 1) 0 ||| x.toNat * 2 ^ (7 - bs.length % 8) by
      simp [List.getD_eq_getElem?_getD, hi]]
    obtain ⟨g1, g2⟩ := h.2 _ hi
    have hx : x.toNat * 2 ^ (7 - bs.length % 8) < 256 := by
      have : 2 ^ (7 - bs.length % 8) ≤ 2 ^ 7 := Nat.pow_le_pow_right (by omega) (by omega)
      have := Bool.toNat_le x
      have : x.toNat * 2 ^ (7 - bs.length % 8) ≤ 1 * 2 ^ 7 := Nat.mul_le_mul (by omega) (by omega)
      omega
    refine ⟨Nat.or_lt_two_pow (n := 8) g1 hx, fun k hk => ?_⟩
    rw [Nat.testBit_or, g2 k hk]
    have e : 8 * (vs.length - 1) = 8 * (bs.length / 8) := by omega
    have hm := Nat.div_add_mod bs.length 8
    rw [e]
    have tb : (x.toNat * 2 ^ (7 - bs.length % 8)).testBit (7 - k) = (x && decide (k = bs.length % 8)) := by
      cases x
      · simp
      · simp only [Bool.toNat_true, Nat.one_mul, Bool.true_and, Nat.testBit_two_pow]
        exact decide_eq_decide.2 ⟨fun h => by omega, fun h => by omega⟩
    rw [tb]
    by_cases hk2 : k < bs.length % 8
    · rw [List.getD_eq_getElem?_getD, List.getD_eq_getElem?_getD, List.getElem?_append_left (by omega)]
      simp [show k ≠ bs.length % 8 by omega]
    · by_cases hk3 : k = bs.length % 8
      · subst hk3
        rw [List.getD_eq_getElem?_getD, List.getD_eq_getElem?_getD, hm, List.getElem?_append_right (Nat.le_refl _), List.getElem?_eq_none (Nat.le_refl _)]
        simp
      · rw [List.getD_eq_getElem?_getD, List.getD_eq_getElem?_getD, List.getElem?_eq_none (by omega), List.getElem?_eq_none (by simp; omega)]
        simp [hk3]
  · have hne : (vs.set (vs.length - 1) (vs.getD (vs.length - 1) 0 ||| x.toNat * 2 ^ (7 - bs.length % 8))).getD i 0 = vs.getD i 0 := by
      simp only [List.getD_eq_getElem?_getD]
      rw [List.getElem?_set_ne (by omega)]
    rw [hne]
    obtain ⟨g1, g2⟩ := h.2 i hi
    refine ⟨g1, fun k hk => ?_⟩
    rw [g2 k hk, List.getD_eq_getElem?_getD, List.getD_eq_getElem?_getD, List.getElem?_append_left (by omega)]
/-- What stands in full bytes stands ahead of what comes. -/
theorem Packs.append {vs us : List Nat} {bs cs : List Bool} (h : Packs vs bs) (k : Packs us cs) (h8 : bs.length % 8 = 0) : Packs (vs ++ us) (bs ++ cs) := by
  have h1 := h.1
  have k1 := k.1
  refine ⟨by simp; omega, fun i hi => ?_⟩
  simp only [List.length_append] at hi
  by_cases hl : i < vs.length
  · have := h.2 i hl
    rw [show (vs ++ us).getD i 0 = vs.getD i 0 by simp [List.getD_eq_getElem?_getD, List.getElem?_append_left hl]]
    refine ⟨this.1, fun q hq => ?_⟩
    rw [this.2 q hq, List.getD_eq_getElem?_getD, List.getD_eq_getElem?_getD, List.getElem?_append_left (by omega)]
  · have := k.2 (i - vs.length) (by omega)
    rw [show (vs ++ us).getD i 0 = us.getD (i - vs.length) 0 by simp [List.getD_eq_getElem?_getD, List.getElem?_append_right (Nat.le_of_not_lt hl)]]
    refine ⟨this.1, fun q hq => ?_⟩
    rw [this.2 q hq, List.getD_eq_getElem?_getD, List.getD_eq_getElem?_getD, List.getElem?_append_right (by omega)]
    congr 2
    omega
def bitAt (s : ByteArray) (i : Nat) : Bool := (s.data.toList.getD (i / 8) 0).toNat.testBit (7 - i % 8)
def unpack (s : ByteArray) : List Bool := (List.range (8 * s.size)).map (bitAt s)
@[simp] theorem unpack_length (s : ByteArray) : (unpack s).length = 8 * s.size := by simp [unpack]
theorem unpack_get {s : ByteArray} {i : Nat} (h : i < 8 * s.size) : (unpack s)[i]? = some (bitAt s i) := by simp [unpack, h]
/-- Bytes az a string. -/
def strOf (vs : List Nat) : ByteArray := ⟨(vs.map UInt8.ofNat).toArray⟩
@[simp] theorem strOf_size (vs : List Nat) : (strOf vs).size = vs.length := by simp [strOf, ByteArray.size]
theorem Packs.unpack {vs : List Nat} {bs : List Bool} (h : Packs vs bs) : unpack (strOf vs) = bs ++ List.replicate (8 * vs.length - bs.length) false := by
  have h1 := h.1
  apply List.ext_getElem?
  intro i
  by_cases hi : i < 8 * vs.length
  · rw [unpack_get (by simpa using hi)]
    have g := h.2 (i / 8) (by omega)
    have e : (strOf vs).data.toList.getD (i / 8) 0 = UInt8.ofNat (vs.getD (i / 8) 0) := by
      simp [strOf, List.getD_eq_getElem?_getD]
      rw [List.getElem?_eq_getElem (by omega)]
      simp
    have t : bitAt (strOf vs) i = bs.getD i false := by
      rw [bitAt, e, UInt8.toNat_ofNat', Nat.mod_eq_of_lt g.1, g.2 (i % 8) (by omega), Nat.div_add_mod]
    rw [t]
    by_cases hb : i < bs.length
    · rw [List.getElem?_append_left hb, List.getD_eq_getElem?_getD, List.getElem?_eq_getElem hb]; rfl
    · rw [List.getElem?_append_right (by omega), List.getD_eq_getElem?_getD, List.getElem?_eq_none (by omega), List.getElem?_replicate, if_pos (by omega)]; rfl
  · rw [List.getElem?_eq_none (by simp only [unpack_length, strOf_size]; omega), List.getElem?_eq_none (by simp only [List.length_append, List.length_replicate]; omega)]
end Go.Rlm
end

section
namespace Go.Rlm
theorem wI64 {n : Int} (h1 : -9223372036854775808 ≤ n) (h2 : n < 9223372036854775808) : IntKind.wrap .i64 n = n := by
  simp [IntKind.wrap, IntKind.bits, IntKind.signed]
  split <;> omega
theorem wU8 {n : Int} (h1 : 0 ≤ n) (h2 : n < 256) : IntKind.wrap .u8 n = n := by
  simp only [IntKind.wrap, IntKind.bits, IntKind.signed, Bool.false_and, Bool.false_eq_true, if_false]
  have e1 : (2 : Int) ^ 8 = 256 := by decide
  rw [e1]; omega
theorem wU32 {n : Int} (h1 : 0 ≤ n) (h2 : n < 4294967296) : IntKind.wrap .u32 n = n := by
  simp only [IntKind.wrap, IntKind.bits, IntKind.signed, Bool.false_and, Bool.false_eq_true, if_false]
  have e1 : (2 : Int) ^ 32 = 4294967296 := by decide
  rw [e1]; omega
theorem wU64 {n : Int} (h1 : 0 ≤ n) (h2 : n < 18446744073709551616) : IntKind.wrap .u64 n = n := by
  simp only [IntKind.wrap, IntKind.bits, IntKind.signed, Bool.false_and, Bool.false_eq_true, if_false]
  have e1 : (2 : Int) ^ 64 = 18446744073709551616 := by decide
  rw [e1]; omega
theorem wrap_nat {k : IntKind} (hk : k.signed = false) {a : Nat} (ha : a < 2 ^ k.bits) : IntKind.wrap k (a : Int) = a := by
  simp only [IntKind.wrap, hk, Bool.false_and, Bool.false_eq_true, if_false]
  rw [Int.emod_eq_of_lt (by omega)]
  have : ((2 ^ k.bits : Nat) : Int) = (2 : Int) ^ k.bits := by push_cast; rfl
  omega
theorem bitop_or {k : IntKind} (hk : k.signed = false) {a b : Nat} (ha : a < 2 ^ k.bits) (hb : b < 2 ^ k.bits) : bitop .or k (a : Int) (b : Int) = ((a ||| b : Nat) : Int) := by
  simp only [bitop, BitVec.ofInt_natCast, BitVec.toNat_or, BitVec.toNat_ofNat, Nat.mod_eq_of_lt ha, Nat.mod_eq_of_lt hb]
  exact wrap_nat hk (Nat.or_lt_two_pow ha hb)
theorem bitop_and {k : IntKind} (hk : k.signed = false) {a b : Nat} (ha : a < 2 ^ k.bits) (hb : b < 2 ^ k.bits) : bitop .and k (a : Int) (b : Int) = ((a &&& b : Nat) : Int) := by
  simp only [bitop, BitVec.ofInt_natCast, BitVec.toNat_and, BitVec.toNat_ofNat, Nat.mod_eq_of_lt ha, Nat.mod_eq_of_lt hb]
  exact wrap_nat hk (Nat.and_lt_two_pow _ hb)
theorem fdiv_pow (a k : Nat) : Int.fdiv (a : Int) (2 ^ k) = ((a / 2 ^ k : Nat) : Int) := by
  have : ((2 ^ k : Nat) : Int) = (2 : Int) ^ k := by push_cast; rfl
  rw [← this, Int.fdiv_eq_ediv_of_nonneg _ (Int.natCast_nonneg _)]
  rfl
theorem tdiv_nat (a b : Nat) : Int.tdiv (a : Int) (b : Int) = ((a / b : Nat) : Int) := by
  rw [Int.tdiv_eq_ediv_of_nonneg (by omega)]; rfl
theorem tmod_nat (a b : Nat) : Int.tmod (a : Int) (b : Int) = ((a % b : Nat) : Int) := by
  rw [Int.tmod_eq_emod_of_nonneg (by omega)]; rfl
@[simp] theorem mk_add (b o n : Nat) : Addr.add ⟨b, o, none⟩ n = ⟨b, o + n, none⟩ := by
  unfold Addr.add
  split
  · rename_i h; subst h; rfl
  · rfl
theorem cell_of {L : LHeap} {b o : Nat} {cs : List Value} {e : TypeId} {ro : Bool} {sp : Nat} (h : L[b]? = some (.cells cs e ro sp)) : cell L ⟨b, o, none⟩ = cs[o]? := by simp [cell, h]
theorem stores_of {L : LHeap} {b o : Nat} {cs vs : List Value} {e : TypeId} {sp : Nat} (h : L[b]? = some (.cells cs e false sp)) (hl : o + vs.length ≤ cs.length) :
    stores L ⟨b, o, none⟩ vs = some (L.set b (.cells (setAll cs o vs) e false sp)) := by
  simp only [stores, h]
  rw [Nat.ble_eq_true_of_le hl]; rfl
theorem idx_of {b o n c i esz : Nat} (h : i < n) : idx ⟨some ⟨b, o, none⟩, n, c⟩ (i : Int) esz = some ⟨b, o + i * esz, none⟩ := by
  simp only [idx]
  rw [show (decide (0 ≤ (i : Int)) && decide ((i : Int) < (n : Int))) = true by simpa using h]
  simp [mk_add]
theorem get_lt {α : Type} {L : List α} {b : Nat} {x : α} (h : L[b]? = some x) : b < L.length := (List.getElem?_eq_some_iff.1 h).1
theorem get_set_ne {L : LHeap} {b c : Nat} {x : LBlk} (h : b ≠ c) : (L.set b x)[c]? = L[c]? := List.getElem?_set_ne h
theorem get_set_self {L : LHeap} {b : Nat} {x y : LBlk} (h : L[b]? = some y) : (L.set b x)[b]? = some x := by
  rw [List.getElem?_set_self (get_lt h)]
theorem get_push {L X : LHeap} {b : Nat} (h : b < L.length) : (L ++ X)[b]? = L[b]? := List.getElem?_append_left h
theorem get_new {L : LHeap} {x : LBlk} : (L ++ [x])[L.length]? = some x := by simp
/-- From L to L' by one that owns the blocks F, and then F'. -/
structure Step (F : List Nat) (L : LHeap) (F' : List Nat) (L' : LHeap) : Prop where
  len : L.length ≤ L'.length
  keep : ∀ i, i < L.length → i ∉ F → L'[i]? = L[i]?
  foot : ∀ i ∈ F', i ∈ F ∨ L.length ≤ i
theorem Step.refl (F : List Nat) (L : LHeap) : Step F L F L := ⟨Nat.le_refl _, fun _ _ _ => rfl, fun _ h => .inl h⟩
theorem Step.trans {F F1 F2 : List Nat} {L L1 L2 : LHeap} (h : Step F L F1 L1) (k : Step F1 L1 F2 L2) : Step F L F2 L2 := by
  refine ⟨Nat.le_trans h.len k.len, fun i hi hF => ?_, fun i hi => ?_⟩
  · rw [k.keep i (Nat.lt_of_lt_of_le hi h.len) (fun h1 => by rcases h.foot i h1 with h2 | h2; exact hF h2; omega), h.keep i hi hF]
  · rcases k.foot i hi with h1 | h1
    · exact h.foot i h1
    · exact .inr (Nat.le_trans h.len h1)
theorem Step.mono {F F' G : List Nat} {L L' : LHeap} (h : Step F L F' L') (hG : ∀ i ∈ F, i ∈ G) : Step G L F' L' :=
  ⟨h.len, fun i hi hn => h.keep i hi fun h1 => hn (hG i h1), fun i hi => (h.foot i hi).imp (hG i) id⟩
theorem Step.less {F F' G : List Nat} {L L' : LHeap} (h : Step F L F' L') (hG : ∀ i ∈ G, i ∈ F' ∨ i ∈ F) : Step F L G L' :=
  ⟨h.len, h.keep, fun i hi => (hG i hi).elim (h.foot i) .inl⟩
theorem Step.push (F : List Nat) (L X : LHeap) : Step F L F (L ++ X) := ⟨by simp, fun i hi _ => get_push hi, fun _ h => .inl h⟩
theorem Step.new (F : List Nat) (L : LHeap) (x : LBlk) : Step F L (L.length :: F) (L ++ [x]) :=
  ⟨by simp, fun i hi _ => get_push hi, fun i h => by rcases List.mem_cons.1 h with rfl | h; exact .inr (Nat.le_refl _); exact .inl h⟩
theorem Step.set {F : List Nat} {L : LHeap} {b : Nat} (x : LBlk) (h : b ∈ F) : Step F L F (L.set b x) :=
  ⟨by simp, fun i _ hn => get_set_ne (fun e => hn (e ▸ h)), fun _ h => .inl h⟩
/-- What belongs to another one stays. -/
def Apart (F G : List Nat) : Prop := ∀ i ∈ F, i ∉ G
theorem Apart.symm {F G : List Nat} (h : Apart F G) : Apart G F := fun i hi hf => h i hf hi
def Within (F : List Nat) (L : LHeap) : Prop := ∀ i ∈ F, i < L.length
theorem Step.others {F F' G : List Nat} {L L' : LHeap} (h : Step F L F' L') (hG : Within G L) (ha : Apart F G) : ∀ i ∈ G, L'[i]? = L[i]? :=
  fun i hi => h.keep i (hG i hi) fun hf => ha i hf hi
theorem Step.within {F F' G : List Nat} {L L' : LHeap} (h : Step F L F' L') (hG : Within G L) : Within G L' := fun i hi => Nat.lt_of_lt_of_le (hG i hi) h.len
def OS (L : LHeap) (s : Sl) (vs : List Value) (e : TypeId) (F : List Nat) : Prop :=
  (s = ⟨none, 0, 0⟩ ∧ vs = [] ∧ F = []) ∨ ∃ c, s = ⟨some ⟨c, 0, none⟩, vs.length, OPEN⟩ ∧ L[c]? = some (.cells vs e false 1) ∧ F = [c]
theorem OS.nil (L : LHeap) (e : TypeId) : OS L ⟨none, 0, 0⟩ [] e [] := .inl ⟨rfl, rfl, rfl⟩
theorem OS.mono {L L' : LHeap} {s : Sl} {vs : List Value} {e : TypeId} {F : List Nat} (h : OS L s vs e F) (hk : ∀ i ∈ F, L'[i]? = L[i]?) : OS L' s vs e F := by
  rcases h with h | ⟨c, h1, h2, rfl⟩
  · exact .inl h
  · exact .inr ⟨c, h1, by rw [hk c (by simp), h2], rfl⟩
theorem OS.within {L : LHeap} {s : Sl} {vs : List Value} {e : TypeId} {F : List Nat} (h : OS L s vs e F) : Within F L := by
  rcases h with ⟨_, _, rfl⟩ | ⟨c, h1, h2, rfl⟩
  · intro i hi; simp at hi
  · intro i hi; simp at hi; subst hi; exact get_lt h2
theorem OS.len {L : LHeap} {s : Sl} {vs : List Value} {e : TypeId} {F : List Nat} (h : OS L s vs e F) : s.n = vs.length := by
  rcases h with ⟨rfl, rfl, rfl⟩ | ⟨c, rfl, h2, rfl⟩ <;> rfl
theorem blen_of {L : LHeap} {b o : Nat} {cs : List Value} {e : TypeId} {ro : Bool} (h : L[b]? = some (.cells cs e ro 1)) : blen L ⟨b, o, none⟩ 1 = some (cs.length - o) := by
  simp [blen, h]
  rfl
theorem OS.src {L : LHeap} {s : Sl} {vs : List Value} {e : TypeId} {F : List Nat} (h : OS L s vs e F) : srcCells L s s.n 1 = some vs := by
  rcases h with ⟨rfl, rfl, rfl⟩ | ⟨c, rfl, h2, rfl⟩
  · rfl
  · simp only [srcCells]
    cases hv : vs with
    | nil => rfl
    | cons v vs' =>
      rw [hv] at h2
      simp only [List.length_cons, show Nat.beq (vs'.length + 1) 0 = false from rfl, cond_false]
      simp [cellsAt, h2, Nat.ble_eq_true_of_le]
theorem OS.app {L : LHeap} {s : Sl} {vs : List Value} {e : TypeId} {F : List Nat} (h : OS L s vs e F) (news : List Value) (bytes : Nat)
    (hb : (vs.length + news.length) * bytes ≤ 2 ^ 47) (hl : vs.length + news.length ≤ 2 ^ 62) :
    ∃ s' L' F', Rlm.app L e 1 bytes s news.length news = some (s', L') ∧ OS L' s' (vs ++ news) e F' ∧ Step F L F' L' := by
  rcases h with ⟨rfl, rfl, rfl⟩ | ⟨c, rfl, h2, rfl⟩
  · cases news with
    | nil => exact ⟨⟨none, 0, 0⟩, L, [], rfl, .inl ⟨rfl, rfl, rfl⟩, .refl _ _⟩
    | cons x xs =>
      refine ⟨⟨some ⟨L.length, 0, none⟩, xs.length + 1, OPEN⟩, L ++ [.cells (x :: xs) e false 1], [L.length], ?_, .inr ⟨L.length, by simp, by simp, rfl⟩, .new [] L _⟩
      simp only [Rlm.app, List.length_cons, Nat.zero_add]
      rw [show Nat.blt 0 OPEN = true from rfl, show Nat.ble (xs.length + 1) 0 = false from rfl]
      simp only [List.length_nil, List.length_cons, Nat.zero_add] at hb hl
      rw [Nat.ble_eq_true_of_le hb, Nat.ble_eq_true_of_le hl]
      simp [srcCells]
  · have hbl := blen_of (o := 0) h2
    simp only [Rlm.app]
    rw [show Nat.blt OPEN OPEN = false by decide, show Nat.beq OPEN OPEN = true from Nat.beq_refl _]
    simp only [cond_true, cond_false, hbl, Nat.sub_zero]
    cases news with
    | nil =>
      refine ⟨⟨some ⟨c, 0, none⟩, vs.length, OPEN⟩, L, [c], ?_, .inr ⟨c, by simp, by simpa using h2, rfl⟩, .refl _ _⟩
      simp [Nat.ble_eq_true_of_le]
    | cons x xs =>
      refine ⟨⟨some ⟨L.length, 0, none⟩, vs.length + (xs.length + 1), OPEN⟩, L.set c .dead ++ [.cells (vs ++ x :: xs) e false 1], [L.length], ?_, .inr ⟨L.length, by simp, by rw [← (List.length_set : (L.set c LBlk.dead).length = L.length)]; exact get_new, rfl⟩, ?_⟩
      · simp only [List.length_cons] at hb hl ⊢
        have hf : Nat.ble (vs.length + (xs.length + 1)) vs.length = false := by
          cases hc : Nat.ble (vs.length + (xs.length + 1)) vs.length with
          | false => rfl
          | true => have := Nat.le_of_ble_eq_true hc; omega
        rw [hf, Nat.ble_eq_true_of_le hb, Nat.ble_eq_true_of_le hl]
        simp [h2, Nat.ble_eq_true_of_le]
      · refine ⟨by simp, fun i hi hn => ?_, fun i hi => by simp at hi; subst hi; exact .inr (Nat.le_refl _)⟩
        rw [get_push (by simpa using hi), get_set_ne (fun e => hn (by simp [e]))]
/-- A cell of it. -/
theorem OS.get {L : LHeap} {s : Sl} {vs : List Value} {e : TypeId} {F : List Nat} (h : OS L s vs e F) {i : Nat} {v : Value} (hv : vs[i]? = some v) :
    ∃ a, idx s (i : Int) 1 = some a ∧ cell L a = some v := by
  rcases h with ⟨rfl, rfl, rfl⟩ | ⟨c, rfl, h2, rfl⟩
  · simp at hv
  · refine ⟨⟨c, 0 + i * 1, none⟩, idx_of (get_lt hv), ?_⟩
    rw [cell_of h2]; simpa using hv
/-- A cell is written. -/
theorem OS.put {L : LHeap} {s : Sl} {vs : List Value} {e : TypeId} {F : List Nat} (h : OS L s vs e F) {i : Nat} (hi : i < vs.length) (v : Value) :
    ∃ a L', idx s (i : Int) 1 = some a ∧ stores L a [v] = some L' ∧ OS L' s (vs.set i v) e F ∧ Step F L F L' := by
  rcases h with ⟨rfl, rfl, rfl⟩ | ⟨c, rfl, h2, rfl⟩
  · simp at hi
  · refine ⟨⟨c, 0 + i * 1, none⟩, _, idx_of hi, stores_of h2 (by simp; omega), .inr ⟨c, by simp, ?_, rfl⟩, .set _ (by simp)⟩
    rw [get_set_self h2]; simp [setAll]
def bV (n : Nat) : Value := .int .u8 n
theorem toBytes_of (vs : List Nat) (hb : ∀ n ∈ vs, n < 256) (acc : ByteArray) : toBytes (vs.map bV) acc = some ⟨acc.data ++ (vs.map UInt8.ofNat).toArray⟩ := by
  induction vs generalizing acc with
  | nil => simp [toBytes]
  | cons v vs ih =>
    simp only [List.map_cons, bV, toBytes]
    have := ih (fun n hn => hb n (by simp [hn])) (acc.push (UInt8.ofNat v))
    rw [show (v : Int).toNat = v from rfl, this]
    simp [ByteArray.push]
theorem OS.bytes {L : LHeap} {s : Sl} {vs : List Nat} {e : TypeId} {F : List Nat} (h : OS L s (vs.map bV) e F) (hb : ∀ n ∈ vs, n < 256) : bytesOf L s = some (strOf vs) := by
  simp only [bytesOf, h.src, Option.bind_eq_bind, Option.bind_some, toBytes_of vs hb]
  simp [strOf, ByteArray.empty, ByteArray.emptyWithCapacity]
  rfl
theorem Packs.small {vs : List Nat} {bs : List Bool} (h : Packs vs bs) : ∀ n ∈ vs, n < 256 := by
  intro n hn
  obtain ⟨i, hi, rfl⟩ := List.getElem_of_mem hn
  have := (h.2 i hi).1
  rwa [List.getD_eq_getElem?_getD, List.getElem?_eq_getElem hi] at this
end Go.Rlm
end

section
namespace Go.Rlm
def ivS : List Nat := [1779033703, 3144134277, 1013904242, 2773480762, 1359893119, 2600822924, 528734635, 1541459225]
def sigmaS : List (List Nat) := [
  [0, 1, 2, 3, 4, 5, 6, 7, 8, 9, 10, 11, 12, 13, 14, 15],
  [14, 10, 4, 8, 9, 15, 13, 6, 1, 12, 0, 2, 11, 7, 5, 3],
  [11, 8, 12, 0, 5, 2, 15, 13, 10, 14, 3, 6, 7, 1, 9, 4],
  [7, 9, 3, 1, 13, 12, 11, 14, 2, 6, 5, 10, 4, 0, 15, 8],
  [9, 0, 5, 7, 2, 4, 10, 15, 14, 1, 11, 12, 6, 8, 3, 13],
  [2, 12, 6, 10, 0, 11, 8, 3, 4, 13, 7, 5, 15, 14, 1, 9],
  [12, 5, 1, 15, 14, 13, 4, 10, 0, 7, 6, 3, 9, 2, 8, 11],
  [13, 11, 7, 14, 12, 1, 3, 9, 5, 0, 15, 4, 8, 6, 2, 10],
  [6, 15, 14, 9, 11, 3, 0, 8, 12, 2, 13, 7, 1, 4, 10, 5],
  [10, 2, 8, 4, 7, 6, 1, 5, 15, 11, 9, 14, 3, 12, 13, 0]]
def lanesS : List (List Nat) := [[0, 4, 8, 12], [1, 5, 9, 13], [2, 6, 10, 14], [3, 7, 11, 15], [0, 5, 10, 15], [1, 6, 11, 12], [2, 7, 8, 13], [3, 4, 9, 14]]
def add32 (a b : Nat) : Nat := (a + b) % 4294967296
/-- Bits turned down by n. -/
def rot32 (x n : Nat) : Nat := (x >>> n) ||| (x <<< (32 - n)) % 4294967296
/-- Four numbers mixed with two others. -/
def mixS (v : List Nat) (a b c d x y : Nat) : List Nat :=
  let va := add32 (add32 (v.getD a 0) (v.getD b 0)) x
  let vd := rot32 (v.getD d 0 ^^^ va) 16
  let vc := add32 (v.getD c 0) vd
  let vb := rot32 (v.getD b 0 ^^^ vc) 12
  let va := add32 (add32 va vb) y
  let vd := rot32 (vd ^^^ va) 8
  let vc := add32 vc vd
  let vb := rot32 (vb ^^^ vc) 7
  (((v.set a va).set b vb).set c vc).set d vd
def laneS (m row : List Nat) (v : List Nat) (i : Nat) : List Nat :=
  let l := lanesS.getD i []
  mixS v (l.getD 0 0) (l.getD 1 0) (l.getD 2 0) (l.getD 3 0) (m.getD (row.getD (2 * i) 0) 0) (m.getD (row.getD (2 * i + 1) 0) 0)
def roundS (m v row : List Nat) : List Nat := (List.range 8).foldl (laneS m row) v
def roundsS (m v : List Nat) : List Nat := sigmaS.foldl (roundS m) v
/-- The words of bytes, the lowest first. -/
def wordS (b : List Nat) (i : Nat) : Nat := b.getD (4 * i) 0 + b.getD (4 * i + 1) 0 * 256 + b.getD (4 * i + 2) 0 * 65536 + b.getD (4 * i + 3) 0 * 16777216
def wordsS (b : List Nat) : List Nat := (List.range 16).map (wordS b)
/-- The numbers ahead of the rounds. -/
def startS (h : List Nat) (gone : Nat) (last : Bool) : List Nat :=
  h ++ (((ivS.set 4 (ivS.getD 4 0 ^^^ gone % 4294967296)).set 5 (ivS.getD 5 0 ^^^ gone / 4294967296 % 4294967296)).set 6 (if last then ivS.getD 6 0 ^^^ 4294967295 else ivS.getD 6 0))
def endS (h v : List Nat) : List Nat := (List.range 8).map fun i => h.getD i 0 ^^^ v.getD i 0 ^^^ v.getD (i + 8) 0
/-- A block mixed in; gone: how many bytes were there with it. -/
def takeS (h b : List Nat) (gone : Nat) (last : Bool) : List Nat := endS h (roundsS (wordsS b) (startS h gone last))
/-- All blocks but the last, mixed in: the numbers, what is left, how many bytes are gone. -/
def addS : Nat → List Nat → List Nat → Nat → List Nat × List Nat × Nat
  | 0, h, rest, gone => (h, rest, gone)
  | q + 1, h, rest, gone => if 64 < rest.length then addS q (takeS h (rest.take 64) (gone + 64) false) (rest.drop 64) (gone + 64) else (h, rest, gone)
def lastS (h rest : List Nat) (gone : Nat) : List Nat := takeS h (rest ++ List.replicate (64 - rest.length) 0) (gone + rest.length) true
def le4S (n : Nat) : List Nat := [n % 256, n / 256 % 256, n / 65536 % 256, n / 16777216 % 256]
def firstS : List Nat := ivS.set 0 (ivS.getD 0 0 ^^^ 16842784)
/-- The digest of bytes. -/
def blakeS (s : List Nat) : List Nat :=
  let r := addS s.length firstS s 0
  ((lastS r.1 r.2.1 r.2.2).map le4S).flatten
theorem endS_length (h v : List Nat) : (endS h v).length = 8 := by simp [endS]
theorem flat4_length : ∀ l : List Nat, ((l.map le4S).flatten).length = 4 * l.length
  | [] => rfl
  | n :: l => by rw [List.map_cons, List.flatten_cons, List.length_append, flat4_length l]; simp [le4S]; omega
theorem blakeS_length (s : List Nat) : (blakeS s).length = 32 := by
  unfold blakeS
  simp only
  rw [flat4_length, lastS, takeS, endS_length]
end Go.Rlm
namespace Go.Rlm
/-- A text's bytes. -/
def nbS (s : ByteArray) : List Nat := s.data.toList.map UInt8.toNat
theorem nbS_small (s : ByteArray) : ∀ n ∈ nbS s, n < 256 := by
  intro n hn
  obtain ⟨c, _, rfl⟩ := List.mem_map.1 hn
  exact c.toNat_lt
theorem nbS_str (s : ByteArray) : strOf (nbS s) = s := by
  unfold strOf nbS
  rw [List.map_map, show (UInt8.ofNat ∘ UInt8.toNat) = id from funext fun c => UInt8.ofNat_toNat, List.map_id]
theorem nbS_length (s : ByteArray) : (nbS s).length = s.size := by unfold nbS; rw [List.length_map]; exact Array.length_toList
/-- The digest of a text. -/
def blakeB (s : ByteArray) : ByteArray := strOf (blakeS (nbS s))
theorem blakeB_size (s : ByteArray) : (blakeB s).size = 32 := by unfold blakeB; rw [strOf_size, blakeS_length]
end Go.Rlm
end

section
namespace Go.Rlm
mutual
/-- The same value, its blocks named otherwise. -/
inductive Ren (ρ : Nat → Option Nat) : Value → Value → Prop
  | flat {v} (h : Rlm.flat v = true) : Ren ρ v v
  | ptr {b b' o s} (h : ρ b = some b') : Ren ρ (.pointer (some ⟨b, o, s⟩)) (.pointer (some ⟨b', o, s⟩))
  | slice {b b' o s n c} (h : ρ b = some b') : Ren ρ (.slice (some ⟨b, o, s⟩) n c) (.slice (some ⟨b', o, s⟩) n c)
  | tuple {vs us} (h : Rens ρ vs us) : Ren ρ (.tuple ⟨vs⟩) (.tuple ⟨us⟩)
inductive Rens (ρ : Nat → Option Nat) : List Value → List Value → Prop
  | nil : Rens ρ [] []
  | cons {v u vs us} (h : Ren ρ v u) (hs : Rens ρ vs us) : Rens ρ (v :: vs) (u :: us)
end
mutual
theorem Ren.vr {ρ : Nat → Option Nat} {m m2 : RMap} (hρ : ∀ b b', ρ b = some b' → m b = m2 b') {v u w : Value} (h : Ren ρ v u) (hv : VR m v w) : VR m2 u w := by
  cases h with
  | flat h =>
    rw [hv.eq_flat h]
    exact VR.flat h
  | ptr h =>
    cases hv with
    | flat1 h' => simp [Rlm.flat1] at h'
    | ptr h' => exact VR.ptr (a := ⟨_, _, _⟩) (by rw [← hρ _ _ h]; exact h')
  | slice h =>
    cases hv with
    | flat1 h' => simp [Rlm.flat1] at h'
    | slice h' hc => exact VR.slice (a := ⟨_, _, _⟩) (by rw [← hρ _ _ h]; exact h') hc
    | opn h' => exact VR.opn (a := ⟨_, _, _⟩) (by rw [← hρ _ _ h]; exact h')
    | loose => exact VR.loose
  | tuple h =>
    obtain ⟨vs', rfl, h'⟩ := hv.of_tuple
    exact VR.tuple (Rens.vrs hρ h h')
theorem Rens.vrs {ρ : Nat → Option Nat} {m m2 : RMap} (hρ : ∀ b b', ρ b = some b' → m b = m2 b') {vs us ws : List Value} (h : Rens ρ vs us) (hv : VRs m vs ws) : VRs m2 us ws := by
  cases h with
  | nil => cases hv; exact .nil
  | cons h hs =>
    cases hv with
    | cons g gs => exact .cons (Ren.vr hρ h g) (Rens.vrs hρ hs gs)
end
/-- Blocks whose cells bear no addresses. -/
def FlatBlk (b : LBlk) : Prop := ∃ cs e ro sp, b = .cells cs e ro sp ∧ ∀ u ∈ cs, Rlm.flat u = true
theorem vr_flat_any {m m' : RMap} {u u' : Value} (hf : Rlm.flat u = true) (h : VR m u u') : VR m' u u' := by
  rw [h.eq_flat hf]; exact VR.flat hf
theorem Row.flat {P : Program} {m m' : RMap} {w : World} {i : Info} {cs : List Value} {e : TypeId} {ro : Bool} {sp : Nat} (hf : ∀ u ∈ cs, Rlm.flat u = true) (h : Row P m w i cs e ro sp) : Row P m' w i cs e ro sp := by
  obtain ⟨⟨cp, e', fz, h1, h2, h3, h4⟩, h5⟩ := h
  refine ⟨⟨cp, e', fz, h1, fun j v hv => ?_, h3, h4⟩, h5⟩
  obtain ⟨v', g1, g2⟩ := h2 j v hv
  exact ⟨v', g1, vr_flat_any (hf v (List.mem_of_getElem? hv)) g2⟩
def pick (L : LHeap) (bs : List Nat) : LHeap := bs.map fun b => (L[b]?).getD .dead
theorem pick_get {L : LHeap} {bs : List Nat} {i : Nat} {x : LBlk} (h : (pick L bs)[i]? = some x) : ∃ b, bs[i]? = some b ∧ x = (L[b]?).getD .dead := by
  unfold pick at h
  rw [List.getElem?_map] at h
  cases hb : bs[i]? with
  | none => rw [hb] at h; cases h
  | some b => rw [hb] at h; injection h with h; exact ⟨b, rfl, h.symm⟩
@[simp] theorem pick_length (L : LHeap) (bs : List Nat) : (pick L bs).length = bs.length := by simp [pick]
def mapC (m : RMap) (bs : List Nat) : RMap := fun i => match bs[i]? with | some b => m b | none => none
theorem Rep.pick {P : Program} {m : RMap} {L : LHeap} {w : World} (h : Rep P m L w) {bs : List Nat} (hn : bs.Nodup) (hf : ∀ b ∈ bs, ∃ x, L[b]? = some x ∧ FlatBlk x) : Rep P (mapC m bs) (Rlm.pick L bs) w := by
  have hcell : ∀ {i : Nat} {x : LBlk}, (Rlm.pick L bs)[i]? = some x → ∃ b cs e ro sp, bs[i]? = some b ∧ L[b]? = some x ∧ x = .cells cs e ro sp ∧ (∀ u ∈ cs, Rlm.flat u = true) ∧ mapC m bs i = m b := fun {i x} hx => by
    obtain ⟨b, hb, rfl⟩ := pick_get hx
    obtain ⟨x, hx, cs, e, ro, sp, rfl, hfl⟩ := hf b (List.mem_of_getElem? hb)
    refine ⟨b, cs, e, ro, sp, hb, by rw [hx]; rfl, by rw [hx]; rfl, hfl, by unfold mapC; rw [hb]⟩
  refine ⟨fun r hr => ?_, fun r cs e ro sp hr => ?_, fun r r' i i' h1 h2 hne h3 h4 => ?_, ⟨fun r f id env st hr => ?_, fun r r' f id env st f' id' env' st' i i' hr => ?_, fun r es ck hr => ?_, fun r r' es ck es' ck' i i' hr => ?_⟩⟩
  · unfold mapC
    rw [List.getElem?_eq_none (by simpa using hr)]
  · obtain ⟨b, cs', e', ro', sp', hb, hL, hx, hfl, hm⟩ := hcell hr
    injection hx with h1 h2 h3 h4
    subst h1; subst h2; subst h3; subst h4
    obtain ⟨i, g1, g2⟩ := h.row b _ _ _ _ hL
    exact ⟨i, by rw [hm]; exact g1, g2.flat hfl⟩
  · obtain ⟨cs, e, sp, k1⟩ := h1
    obtain ⟨cs', e', ro', sp', k2⟩ := h2
    obtain ⟨b, _, _, _, _, b1, b2, _, _, b3⟩ := hcell k1
    obtain ⟨b', _, _, _, _, c1, c2, _, _, c3⟩ := hcell k2
    rw [b3] at h3; rw [c3] at h4
    refine h.sep b b' i i' ⟨_, _, _, b2⟩ ⟨_, _, _, _, c2⟩ (fun e => ?_) h3 h4
    subst e
    exact hne ((List.getElem?_inj (by exact (List.getElem?_eq_some_iff.1 b1).1) hn).1 (b1.trans c1.symm))
  · obtain ⟨_, _, _, _, _, _, _, hx, _⟩ := hcell hr; cases hx
  · obtain ⟨_, _, _, _, _, _, _, hx, _⟩ := hcell hr; cases hx
  · obtain ⟨_, _, _, _, _, _, _, hx, _⟩ := hcell hr; cases hx
  · obtain ⟨_, _, _, _, _, _, _, hx, _⟩ := hcell hr; cases hx
end Go.Rlm
end

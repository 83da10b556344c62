/- The logical machine and the model: the other built-ins, conversions; every operation. -/
import Derived.Test.YtlcchghlhfamjaaRlmS11
namespace Go.Rlm

section
variable {P : Program} {env : Env} {L : LHeap} {o : Oper} {r : LR} {K : Value → LHeap → R}

/-! ### Conversions -/

theorem VR.sliceShape {m : RMap} {sa : Option Addr} {n c : Nat} {x' : Value} (h : VR m (.slice sa n c) x') : ∃ a' c', x' = .slice a' n c' ∧ (c < OPEN → c' = c) := by
  cases sa with
  | none => exact ⟨_, _, h.of_nilSlice, fun _ => rfl⟩
  | some a =>
    rcases h.of_slice with ⟨_, i, _, e⟩ | ⟨hc, i, _, e⟩ | ⟨hc, hn, a', c', e⟩
    · exact ⟨_, _, e, fun _ => rfl⟩
    · exact ⟨_, _, e, fun h => by omega⟩
    · exact ⟨_, _, hn ▸ e, fun h => by rw [hc] at h; unfold OPEN LOOSE at h; omega⟩


theorem toBytes_ok : ∀ {cs : List Value} {acc s : ByteArray}, toBytes cs acc = some s → ∃ ns : List Int, cs = ns.map (Value.int .u8) ∧ s = ns.foldl (fun r n => r.push (UInt8.ofNat n.toNat)) acc
  | [], acc, s, h => by injection h with h; exact ⟨[], rfl, h.symm⟩
  | v :: cs, acc, s, h => by
    cases v with
    | int k n =>
      cases k with
      | u8 =>
        simp only [toBytes] at h
        obtain ⟨ns, h3, h4⟩ := toBytes_ok h
        exact ⟨n :: ns, by simp [h3], by simpa using h4⟩
      | _ => simp [toBytes] at h
    | _ => simp [toBytes] at h

theorem VRs.ints {m : RMap} : ∀ {ns : List Int} {cs' : List Value}, VRs m (ns.map (Value.int .u8)) cs' → cs' = ns.map (Value.int .u8)
  | [], _, h => by cases h; rfl
  | n :: ns, _, h => by
    cases h with
    | cons h hs => rw [VR.of_int h, VRs.ints hs]; rfl

theorem bytesOf_ok {m : RMap} {w : World} (hr : Rep P m L w) {s : Sl} {b : ByteArray} (h : bytesOf L s = some b) {x' : Value} (hv : VR m (.slice s.a s.n s.c) x') :
    (Conv.bytesToString x').run P w = .ok (.string b) w := by
  unfold bytesOf at h
  simp only [Option.bind_eq_bind, Option.bind_eq_some_iff] at h
  obtain ⟨cs, h1, h2⟩ := h
  obtain ⟨ns, rfl, rfl⟩ := toBytes_ok h2
  obtain ⟨cs', h3, h4, h5, h6⟩ := srcCells_ok hr h1 (Nat.le_refl _) hv
  have h7 := h4.ints
  subst h7
  cases ha : s.a with
  | none =>
    rw [ha] at hv
    rw [hv.of_nilSlice] at h3 ⊢
    simp [Builtin.firstCells] at h3
    subst h3
    rfl
  | some a =>
    rw [ha] at hv
    have fin : ∀ (a' : Addr) (n' c' : Nat), n' = s.n → x' = .slice (some a') n' c' → (Conv.bytesToString x').run P w = .ok (.string (ns.foldl (fun r n => r.push (UInt8.ofNat n.toNat)) .empty)) w := fun a' n' c' hn e => by
      rw [e] at h3 ⊢
      simp only [Builtin.firstCells, Nat.mul_one] at h3
      exact run_bytesToString w a' n' c' ns (by rw [hn]; exact h3)
    rcases hv.of_slice with ⟨_, i, _, e⟩ | ⟨_, i, _, e⟩ | ⟨_, hn, a', c', e⟩
    · exact fin _ _ _ rfl e
    · exact fin _ _ _ rfl e
    · exact fin _ _ _ hn.symm e

theorem lop_convert {s d : TypeId} {x : Operand} (ho : o.op = .convert s d x) (h : lop P env L o K = some r) : Res P env L o K r := by
  obtain ⟨dst, op, ty, pos, after, guard⟩ := o
  simp only at ho
  subst ho
  simp only [lop, ev_eq] at h
  rw [obind_iff] at h
  obtain ⟨v, h1, h⟩ := h
  have unf : ∀ L2 K2, lop P env L2 ⟨dst, .convert s d x, ty, pos, after, guard⟩ K2 = lconv P s d v L2 K2 := fun L2 K2 => by simp only [lop, ev_eq, h1, obind_some]
  unfold lconv at h
  split at h
  · rename_i ds k k' n hs hd
    refine .pure _ h (fun L2 K2 => by rw [unf]; simp only [lconv, hs, hd]) fun m w a hr he => ⟨_, ?_, .flat1 rfl⟩
    simp [execOp, VR.of_int (he.eval h1), convert, run_underlying hs, run_underlying hd, Conv.intToInt]
  · rename_i ds b hs hd
    refine .pure _ h (fun L2 K2 => by rw [unf]; simp only [lconv, hs, hd]) fun m w a hr he => ⟨_, ?_, .flat1 rfl⟩
    simp [execOp, VR.of_string (he.eval h1), convert, run_underlying hs, run_underlying hd]
  · rename_i e a n c hs hd
    split at h
    case h_2 => cases h
    rename_i hu
    rw [obind_iff] at h
    obtain ⟨b, h2, h3⟩ := h
    refine .read _ (by simp [kindOf, hs, hd]) h3 (fun K2 => by rw [unf]; simp only [lconv, hs, hd, hu, h2, obind_some]) fun m w a hr he => ⟨_, ?_, .flat1 rfl⟩
    have hb := bytesOf_ok hr h2 (he.eval h1)
    obtain ⟨a', c', hx, _⟩ := (he.eval h1).sliceShape
    rw [hx] at hb
    simp only [execOp, hx, Sem.run_bind, run_convert_bytes_string w s d e a' _ c' hs hu hd, hb, Result.andThen_ok, Sem.run_pure]
  · rename_i ds e b hs hd
    split at h
    case h_2 => cases h
    rename_i hu
    rw [cond_iff] at h
    obtain ⟨h2, h3⟩ := h
    have hce := Nat.eq_of_beq_eq_true h2
    refine .write _ _ (by
      simp only [kindOf, hs, hd]) h3 (fun K2 => by rw [unf]; simp only [lconv, hs, hd, hu, h2, hif_true, cond_true]) fun m w a hr he => ?_
    have hrun := Lib.run_convert_string_bytes (P := P) w s d e b hs hd hu
    have hge := grownCap_ge w b.size 0 e
    have hbc : (Lib.bytesCells w e b) = ⟨byteCells b ++ List.replicate (grownCap w b.size 0 e - b.size) (.int .u8 0)⟩ := by
      apply Array.ext'
      simp [Lib.bytesCells, byteCells]
    have hblen : (byteCells b).length = b.size := by simp [byteCells]
    have hheap : (Lib.bytesWorld w e b).heap = w.heap.push (.cells ⟨byteCells b ++ List.replicate (grownCap w b.size 0 e - b.size) (.int .u8 0)⟩ e ((Lib.bytesCells w e b).size, (Lib.bytesCells w e b).size + 1)) := by
      rw [← hbc]
      apply Array.ext_getElem?
      intro j
      rcases Nat.lt_trichotomy j w.heap.size with hj | hj | hj
      · rw [Lib.bytesWorld_at_old w e b j hj, Array.getElem?_push, if_neg (by omega)]
      · subst hj; rw [Lib.bytesWorld_at_new, Array.getElem?_push, if_pos rfl]
      · rw [Array.getElem?_eq_none (by rw [Lib.bytesWorld_size]; omega), Array.getElem?_eq_none (by simp; omega)]
    obtain ⟨g1, g2⟩ := hr.push (w' := Lib.bytesWorld w e b) (cs := byteCells b) (cs' := byteCells b) (e := e) 1 (grownCap w b.size 0 e) (fz := ((Lib.bytesCells w e b).size, (Lib.bytesCells w e b).size + 1))
      (extra := List.replicate (grownCap w b.size 0 e - b.size) (.int .u8 0)) hheap (by
        intro o ho
        rw [hbc]
        simp at ho ⊢
        omega) rfl rfl rfl (VRs.flat (byteCells_flat b)) (fun v hv => one_of_flat1 (byteCells_flat b v hv)) (fun _ => ⟨by simp [hblen]; omega, hce.symm⟩)
    refine ⟨_, _, .slice (some ⟨w.heap.size, 0, none⟩) b.size (grownCap w b.size 0 e), .inl (by simp only [execOp, VR.of_string (he.eval h1), Sem.run_bind, hrun, Result.andThen_ok, Sem.run_pure]), ?_, g1, g2⟩
    have hm : ins m L.length ⟨w.heap.size, 0, grownCap w b.size 0 e, 1⟩ L.length = some ⟨w.heap.size, 0, grownCap w b.size 0 e, 1⟩ := by simp [ins]
    have := VR.opn (a := ⟨L.length, 0, none⟩) (n := b.size) hm
    simpa [Info.at] using this
  · cases h

/-! ### The other built-ins -/

theorem minmaxL_ok {mx : Bool} : ∀ {vs : List Value} {v : Value} {K : Value → R}, minmaxL mx v vs K = some r → (∃ k x, v = .int k x) →
    ∃ u, K u = some r ∧ (∀ K2, minmaxL mx v vs K2 = K2 u) ∧ flat1 u = true ∧ ∀ (m : RMap) (vs' : List Value) (w : World), VRs m vs vs' → (vs'.foldlM (if mx then Builtin.max2 else Builtin.min2) v).run P w = .ok u w
  | [], v, K, h, ⟨k, x, hv⟩ => ⟨v, h, fun _ => rfl, by rw [hv]; rfl, fun m vs' w hvs => by cases hvs; rfl⟩
  | y :: vs, v, K, h, ⟨k, x, hv⟩ => by
    subst hv
    cases y <;> simp only [minmaxL] at h <;> first | (cases h; done) | skip
    rename_i k' y
    rw [cond_iff] at h
    obtain ⟨hk, h⟩ := h
    simp only [decide_eq_true_eq] at hk
    subst hk
    obtain ⟨u, h1, h2, h3, h4⟩ := minmaxL_ok h ⟨_, _, rfl⟩
    refine ⟨u, h1, fun K2 => by simp only [minmaxL, decide_true, hif_true, cond_true, h2], h3, fun m vs' w hvs => ?_⟩
    cases hvs with
    | cons hy hs =>
      rw [VR.of_int hy]
      have := h4 m _ w hs
      cases mx <;> simpa [List.foldlM_cons, Builtin.max2, Builtin.min2] using this

theorem lcopy_ok {m : RMap} {w : World} (hr : Rep P m L w) {d : Sl} {n esz : Nat} {news news' : List Value} {L' : LHeap} (h : lcopy L d n esz news = some L') (hv : VRs m news news') (ho : ∀ v ∈ news, one v = true) (hl : news.length = n * esz) (hn : n ≤ d.n)
    {x' : Value} (hx : VR m (.slice d.a d.n d.c) x') :
    ∃ a' c' w', x' = .slice a' d.n c' ∧ (match a' with | some a => (storeCells a news').run P w = .ok () w' | none => w' = w) ∧ Rep P m L' w' ∧ Tr m L w m L' w' := by
  unfold lcopy at h
  split at h
  · rename_i ha
    injection h with h; subst h
    rw [ha] at hx
    exact ⟨none, d.c, w, hx.of_nilSlice, rfl, hr, .refl m L w⟩
  · rename_i a ha
    rw [ha] at hx
    simp only [hif_eq, cond_eq_ite, Bool.or_eq_true] at h
    split at h
    · rename_i h0
      have h0 : n * esz = 0 := by
        rcases h0 with h0 | h0 <;> simp [Nat.eq_of_beq_eq_true h0]
      rw [h0] at hl
      have : news = [] := List.eq_nil_of_length_eq_zero hl
      subst this
      cases hv
      injection h with h; subst h
      rcases hx.of_slice with ⟨_, i, _, e⟩ | ⟨_, i, _, e⟩ | ⟨_, hn, a', c', e⟩
      · exact ⟨_, _, w, e, rfl, hr, .refl m L w⟩
      · exact ⟨_, _, w, e, rfl, hr, .refl m L w⟩
      · exact ⟨_, _, w, hn ▸ e, rfl, hr, .refl m L w⟩
    · rename_i h0
      have fin : ∀ (i : Info) (c' : Nat), m a.block = some i → x' = Value.slice (some (i.at a)) d.n c' → ∃ a' c' w', x' = Value.slice a' d.n c' ∧ (match a' with | some a => (storeCells a news').run P w = .ok () w' | none => w' = w) ∧ Rep P m L' w' ∧ Tr m L w m L' w' := fun i c' hi e =>
        let ⟨w', g1, g2, g3⟩ := hr.stores h hv ho hi
        ⟨_, c', w', e, g1, g2, g3⟩
      rcases hx.of_slice with ⟨_, i, hi, e⟩ | ⟨_, i, hi, e⟩ | ⟨_, hn0, _⟩
      · exact fin i _ hi e
      · exact fin i _ hi e
      · exfalso
        apply h0
        have : n = 0 := by omega
        subst this
        exact .inl rfl

theorem evvs2 {m : RMap} {a : Act} (he : ER m env a.tmps) {args : Array Operand} {x y : Value} (h : evvs env args.toList = some [x, y]) : ∃ x' y', args.map a.eval = #[x', y'] ∧ VR m x x' ∧ VR m y y' := by
  have := he.evals h
  rw [arr_map]
  generalize args.toList.map a.eval = l at this
  cases this with
  | cons h1 hs => cases hs with
    | cons h2 hs => cases hs; exact ⟨_, _, rfl, h1, h2⟩

theorem evvs1 {m : RMap} {a : Act} (he : ER m env a.tmps) {args : Array Operand} {x : Value} (h : evvs env args.toList = some [x]) : ∃ x', args.map a.eval = #[x'] ∧ VR m x x' := by
  have := he.evals h
  rw [arr_map]
  generalize args.toList.map a.eval = l at this
  cases this with
  | cons h1 hs => cases hs; exact ⟨_, rfl, h1⟩

theorem ty_of {ts : Array TypeId} {j : Nat} {d : TypeDesc} (h : (ts[j]?).bind P.underlying = some d) : ∃ t, ts[j]? = some t ∧ P.underlying t = some d := Option.bind_eq_some_iff.1 h

set_option maxHeartbeats 1000000 in
theorem lop_builtin {b : Builtin} {args : Array Operand} {ts : Array TypeId} (ho : o.op = .call { callee := .builtin b, args := args, argTypes := ts }) (h : lop P env L o K = some r) : Res P env L o K r := by
  obtain ⟨dst, op, ty, pos, after, guard⟩ := o
  simp only at ho
  subst ho
  simp only [lop, evs_eq] at h
  rw [obind_iff] at h
  obtain ⟨vs, h1, h⟩ := h
  have unf : ∀ L2 K2, lop P env L2 ⟨dst, .call { callee := .builtin b, args := args, argTypes := ts }, ty, pos, after, guard⟩ K2 = lbuiltin P b ts vs L2 K2 := fun L2 K2 => by simp only [lop, evs_eq, h1, obind_some]
  have ex : ∀ (f : Sem Value) (w w' : World) (v' : Value) (a : Act), (∀ cs, builtin b ts ty cs (args.map a.eval) = (do pure (.value (← f)))) → f.run P w = .ok v' w' →
      (execOp a.eval ⟨dst, .call { callee := .builtin b, args := args, argTypes := ts }, ty, pos, after, guard⟩).run P w = .ok (.value v') w' := fun f w w' v' a hb hf => by
    simp only [execOp, resolve, Sem.run_bind, Sem.run_pure, Result.andThen_ok, invoke, hb, hf]
  unfold lbuiltin at h
  split at h
  · -- len of a string
    rename_i s
    split at h
    case h_2 => cases h
    rename_i hu
    obtain ⟨t, ht, hu'⟩ := ty_of hu
    refine ⟨_, L, h, fun K2 => by rw [unf]; simp only [lbuiltin, hu], .inl ⟨rfl, fun m w a hr he => ?_⟩, fun _ L2 K2 => by rw [unf]; simp only [lbuiltin, hu]⟩
    obtain ⟨x', hx, hv⟩ := evvs1 he h1
    refine ⟨.int .i64 s.size, .inl (ex (Builtin.len_ ts ty (args.map a.eval)) w w _ a (fun cs => rfl) ?_), .flat1 rfl⟩
    rw [hx, hv.of_string]
    simp [Builtin.len_, ht, run_underlying hu', goInt]
  · -- len of a slice
    rename_i sa n c
    split at h
    case h_2 => cases h
    rename_i e hu
    obtain ⟨t, ht, hu'⟩ := ty_of hu
    refine ⟨_, L, h, fun K2 => by rw [unf]; simp only [lbuiltin, hu], .inl ⟨rfl, fun m w a hr he => ?_⟩, fun _ L2 K2 => by rw [unf]; simp only [lbuiltin, hu]⟩
    obtain ⟨x', hx, hv⟩ := evvs1 he h1
    obtain ⟨a', c', hs, _⟩ := hv.sliceShape
    refine ⟨.int .i64 n, .inl (ex (Builtin.len_ ts ty (args.map a.eval)) w w _ a (fun cs => rfl) ?_), .flat1 rfl⟩
    rw [hx, hs]
    simp [Builtin.len_, ht, run_underlying hu', goInt]
  · -- cap
    rename_i sa n c
    split at h
    case h_2 => cases h
    rename_i e hu
    obtain ⟨t, ht, hu'⟩ := ty_of hu
    rw [when_iff] at h
    obtain ⟨h2, h⟩ := h
    refine .read _ (by simp [kindOf]) h (fun K2 => by rw [unf]; simp only [lbuiltin, hu, h2, when_true]) fun m w a hr he => ?_
    obtain ⟨x', hx, hv⟩ := evvs1 he h1
    obtain ⟨a', c', hs, hc⟩ := hv.sliceShape
    have hc := hc (by simpa using h2)
    subst hc
    refine ⟨.int .i64 c', ex (Builtin.cap_ ts ty (args.map a.eval)) w w _ a (fun cs => rfl) ?_, .flat1 rfl⟩
    rw [hx, hs]
    simp [Builtin.cap_, ht, run_underlying hu', goInt]
  · -- append
    rename_i sa n c x
    split at h
    · cases h
    · rename_i e d1 hni hu0 hu1
      obtain ⟨t0, ht0, hu0'⟩ := ty_of hu0
      obtain ⟨t1, ht1, hu1'⟩ := ty_of hu1
      split at h
      case h_2 => cases h
      rename_i i hi
      rw [obind_iff] at h
      obtain ⟨z, hz, h⟩ := h
      rw [when_iff, when_iff] at h
      obtain ⟨h2, h3, h⟩ := h
      simp only [obind_iff] at h
      obtain ⟨k, h4, news, h5, q, h6, h7⟩ := h
      have hd1 : ∀ k, d1 ≠ .int k := by intro k e; subst e; exact hni _ rfl
      refine .write _ _ rfl h7 (fun K2 => by rw [unf]; simp only [lbuiltin, hu0, hu1, hi, hz, h2, h3, h4, h5, h6, when_true, obind_some]) fun m w a hr he => ?_
      obtain ⟨x', y', hx, hv1, hv2⟩ := evvs2 he h1
      obtain ⟨m', w', v', g1, g2, g3, g4⟩ := app_ok (ty := ty) hr ht0 ht1 hu0' hu1' hd1 hi hz (Nat.eq_of_beq_eq_true h2) (by simpa using h3) (s := ⟨sa, n, c⟩) h6 hv1 (srcLen_ok h4 hv2 w)
        (fun w2 hw2 => srcOf_ok hw2 h4 h5 (Nat.le_refl _) hv2)
      exact ⟨m', w', v', .inl (ex (Builtin.append_ ts ty (args.map a.eval)) w w' v' a (fun cs => rfl) (by rw [hx]; exact g1)), g2, g3, g4⟩
    · cases h
  · -- copy
    rename_i sa n c x
    split at h
    case h_2 => cases h
    rename_i e hu0
    obtain ⟨t0, ht0, hu0'⟩ := ty_of hu0
    split at h
    case h_2 => cases h
    rename_i i hi
    simp only [obind_iff] at h
    obtain ⟨k, h4, news, h5, L', h6, h7⟩ := h
    refine .write _ _ rfl h7 (fun K2 => by rw [unf]; simp only [lbuiltin, hu0, hi, h4, h5, h6, obind_some]) fun m w a hr he => ?_
    obtain ⟨x', y', hx, hv1, hv2⟩ := evvs2 he h1
    obtain ⟨news', g1, g2, g3, g4⟩ := srcOf_ok hr h4 h5 (Nat.min_le_left _ _) hv2
    obtain ⟨a', c', w', g5, g6, g7, g8⟩ := lcopy_ok hr (d := ⟨sa, n, c⟩) h6 g2 g3 g4 (Nat.min_le_right _ _) hv1
    refine ⟨m, w', .int .i64 (min k n : Nat), .inl (ex (Builtin.copy_ ts ty (args.map a.eval)) w w' _ a (fun cs => rfl) ?_), .flat1 rfl, g7, g8⟩
    rw [hx, g5]
    have hlen := srcLen_ok (P := P) h4 hv2 w
    have g1' : (Builtin.firstCells i.size (Nat.min k n) y').run P w = .ok ⟨news'⟩ w := g1
    cases a' with
    | none =>
      simp only at g6
      subst g6
      simp only [Builtin.copy_, ht0, Sem.run_bind, run_underlying hu0', Result.andThen_ok, hlen, sizeOf, typeInfo, run_program, hi, Sem.run_pure]
      simp [ht0, run_underlying hu0', hlen, sizeOf, typeInfo, hi, g1', goInt]
    | some q =>
      simp only at g6
      simp [Builtin.copy_, ht0, run_underlying hu0', hlen, sizeOf, typeInfo, hi, g1', g6, goInt]
  · -- clear
    rename_i sa n c
    split at h
    case h_2 => cases h
    rename_i e hu0
    obtain ⟨t0, ht0, hu0'⟩ := ty_of hu0
    rw [obind_iff] at h
    obtain ⟨z, hz, h⟩ := h
    rw [when_iff] at h
    obtain ⟨h2, h⟩ := h
    rw [obind_iff] at h
    obtain ⟨L', h6, h7⟩ := h
    refine .write _ _ rfl h7 (fun K2 => by rw [unf]; simp only [lbuiltin, hu0, hz, h2, h6, when_true, obind_some]) fun m w a hr he => ?_
    obtain ⟨x', hx, hv⟩ := evvs1 he h1
    obtain ⟨zv, g1, g2, g3, g4⟩ := zeroOf_ok hz
    have hzp : 0 < z.length := by simpa using h2
    have hmem : ∀ v ∈ (List.replicate n z).flatten, v ∈ z := fun v hv => by
      obtain ⟨l, hl, hv⟩ := List.mem_flatten.1 hv
      rwa [List.eq_of_mem_replicate hl] at hv
    obtain ⟨a', c', w', g5, g6, g7, g8⟩ := lcopy_ok hr (d := ⟨sa, n, c⟩) (n := n) h6 (VRs.flat fun v hv => g3 v (hmem v hv)) (fun v hv => g4 v (hmem v hv)) (by simp [List.length_flatten]) (Nat.le_refl _) hv
    refine ⟨m, w', .tuple #[], .inl (ex (Builtin.clear_ ts ty (args.map a.eval)) w w' _ a (fun cs => rfl) ?_), .undef, g7, g8⟩
    rw [hx, g5]
    have hz' : ∀ w, (zeroValue e).run P w = .ok zv w := fun w => congrFun g1 w
    have hzc : (Builtin.zeroCells zv.cells n).toList = (List.replicate n z).flatten := by
      have hzs : zv.cells.size = z.length := by rw [← g2]; simp
      have := zero_mod g2 hzp n
      simp only [Builtin.zeroCells, hzs]
      rw [hzs] at this
      rw [this]
    cases a' with
    | none =>
      simp only at g6
      subst g6
      simp [Builtin.clear_, ht0, run_underlying hu0']
    | some q =>
      simp only at g6
      cases n with
      | zero =>
        simp at g6
        have : w' = w := by
          simp [storeCells] at g6
          exact g6.symm
        subst this
        simp [Builtin.clear_, ht0, run_underlying hu0']
      | succ n =>
        simp [Builtin.clear_, ht0, run_underlying hu0', hz', hzc, g6]
  · -- min
    rename_i k x vs
    obtain ⟨u, h2, h3, h4, h5⟩ := minmaxL_ok h ⟨_, _, rfl⟩
    refine .read _ (by simp [kindOf]) h2 (fun K2 => by rw [unf]; exact h3 _) fun m w a hr he => ?_
    have hvs := he.evals h1
    refine ⟨u, ex (Builtin.min_ ts ty (args.map a.eval)) w w _ a (fun cs => rfl) ?_, .flat1 h4⟩
    rw [arr_map]
    generalize args.toList.map a.eval = l at hvs
    cases hvs with
    | cons hx hs =>
      rw [VR.of_int hx]
      have := h5 m _ w hs
      simpa [Builtin.min_] using this
  · -- max
    rename_i k x vs
    obtain ⟨u, h2, h3, h4, h5⟩ := minmaxL_ok h ⟨_, _, rfl⟩
    refine .read _ (by simp [kindOf]) h2 (fun K2 => by rw [unf]; exact h3 _) fun m w a hr he => ?_
    have hvs := he.evals h1
    refine ⟨u, ex (Builtin.max_ ts ty (args.map a.eval)) w w _ a (fun cs => rfl) ?_, .flat1 h4⟩
    rw [arr_map]
    generalize args.toList.map a.eval = l at hvs
    cases hvs with
    | cons hx hs =>
      rw [VR.of_int hx]
      have := h5 m _ w hs
      simpa [Builtin.max_] using this
  · cases h

/-- **Every operation.** -/
theorem lop_ok (h : lop P env L o K = some r) : Res P env L o K r := by
  have h0 := h
  cases ho : o.op with
  | move x => exact lop_move (.inl ho) h
  | assign x => exact lop_move (.inr ho) h
  | pick c x y => exact lop_pick ho h
  | alloc t => exact lop_alloc ho h
  | box t x => exact lop_box ho h
  | build t ps => exact lop_build ho h
  | buildSlice t n ps => exact lop_buildSlice ho h
  | load t x => exact lop_load ho h
  | store t x y => exact lop_store ho h
  | nilCheck x => exact lop_nilCheck ho h
  | binOp b t x y yt => exact lop_binOp ho h
  | unOp u t x => exact lop_unOp ho h
  | convert s d x => exact lop_convert ho h
  | makeInterface t x => exact lop_makeInterface ho h
  | makeFunc f xs ys =>
    cases f with
    | func f => exact lop_makeFunc ho h
    | _ => simp [lop, ho] at h0
  | makeSlice t x y => exact lop_makeSlice ho h
  | slice t x lo hi mx => exact lop_slice ho h
  | fieldAddr s x j => exact lop_fieldAddr ho h
  | field t x j => exact lop_field ho h
  | indexAddr t x y => exact lop_indexAddr ho h
  | index t x y => exact lop_index ho h
  | extract x j => exact lop_extract ho h
  | call c =>
    obtain ⟨callee, args, ts⟩ := c
    cases callee with
    | builtin b => exact lop_builtin ho h
    | _ => simp [lop, ho] at h0
  | _ => simp [lop, ho] at h0

end
end Go.Rlm

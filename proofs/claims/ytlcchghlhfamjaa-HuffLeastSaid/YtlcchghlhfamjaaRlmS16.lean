/- The logical machine and the model: a region that leaves its order open, the theorem. -/
import Derived.Test.YtlcchghlhfamjaaRlmS15
namespace Go.Rlm

section
variable {P : Program} {r : LR} {call : Caller} {ops : Array Oper}

/-- A step that may not panic. -/
theorem lstepD_ok (hc : CallOk P call) {env : Env} {L L1 : LHeap} {o : Oper} {v : Value} (h : ∀ K2, lstepD P call env L o K2 = K2 v L1) {m : RMap} {w : World} {a : Act} (hr : Rep P m L w) (he : ER m env a.tmps)
    {next : Act → World → Prop} {Q : Exit → Act → World → Prop} (go : ∀ m' w' v', VR m' v v' → Rep P m' L1 w' → Tr m L w m' L1 w' → next (a.put o.dst v') w') : o.wp P a w next Q := by
  unfold Oper.wp
  have h0 := h fun v L => some (.ret v L)
  unfold lstepD at h0
  split at h0
  · rename_i f args ts ho
    simp only [ev_eq, evs_eq, obind_iff] at h0
    obtain ⟨fv, h1, vs, h2, h0⟩ := h0
    have hf := he.eval h1
    have hvs := he.evals h2
    unfold lapp at h0
    split at h0
    case h_2 => cases h0
    rename_i g as bs
    obtain ⟨as', bs', hfv, has, hbs⟩ := hf.of_func
    have hargs : VRs m (as.toList ++ vs ++ bs.toList) (as'.toList ++ args.toList.map a.eval ++ bs'.toList) := (has.append hvs).append hbs
    cases hcall : call g (as.toList ++ vs ++ bs.toList) L with
    | none => rw [hcall] at h0; cases h0
    | some r1 =>
      rw [hcall] at h0
      have hrun : (execOp a.eval o).run P w = .ok (.enter g ⟨as'.toList ++ args.toList.map a.eval ++ bs'.toList⟩) w := by
        have e : (as' ++ args.map a.eval ++ bs') = ⟨as'.toList ++ args.toList.map a.eval ++ bs'.toList⟩ := by apply Array.ext'; simp
        simp only [execOp, ho, resolve, hfv, Deferred.ofValue, Sem.run_bind, Sem.run_pure, Result.andThen_ok, invoke, e]
        exact hc.enters g _ L r1 hcall _ w
      rw [hrun]
      refine (hc.calls g _ L r1 hcall m w _ hr hargs).mono fun e w' hE => ?_
      cases r1 with
      | ret u L2 =>
        obtain ⟨m', v', rfl, h4, h5, h6⟩ := hE
        simp only [lbindR_ret] at h0
        have h7 := (typed_same (K := fun v => some (.ret v L2)) h0).1
        injection h7 with h7; injection h7 with h7 h8
        subst h7; subst h8
        exact go m' w' v' h4 h5 h6
      | pan u L2 => cases h0
  · obtain ⟨u, L2, h1, _, h3, _⟩ := lop_ok h0
    injection h1 with h1; injection h1 with h1 h2
    subst h1; subst h2
    have hd : Does P env L o u L2 := by
      rcases h3 with ⟨rfl, h3⟩ | ⟨_, h3⟩
      · exact h3.does
      · exact h3
    obtain ⟨m', w', v', h4, h5, h6, h7⟩ := hd m w a hr he
    rcases h4 with h4 | ⟨h4, rfl⟩
    · rw [h4]; exact go m' w' v' h5 h6 h7
    · rw [h4]; exact go m' w' _ h5 h6 h7

theorem Val.quiet {o : Oper} {env : Env} {L : LHeap} {v : Value} (h : Val P o env L v) (hk : kindOf P o.op ≠ .write) : Quiet P env L o v := by
  have h0 := h fun v L => some (.ret v L)
  obtain ⟨u, L2, h1, _, h3, _⟩ := lop_ok h0
  injection h1 with h1; injection h1 with h1 h2
  subst h1; subst h2
  rcases h3 with ⟨_, h3⟩ | ⟨h3, _⟩
  · exact h3
  · exact absurd h3 hk

structure Setting (P : Program) (call : Caller) (ops : Array Oper) (tr : List Rec) (env0 : Env) (L0 : LHeap) (e' : Env) (L' : LHeap) : Prop where
  trc : Trc P call ops.toList (befores ops.toList []) 0 ops.toList env0 L0 [] [] tr e' L'
  ord : ordered ops.toList (befores ops.toList []) = true

def envAt (tr : List Rec) (e' : Env) (j : Nat) : Env := match tr[j]? with | some rc => rc.env | none => e'
def heapAt (tr : List Rec) (L' : LHeap) (j : Nat) : LHeap := match tr[j]? with | some rc => rc.L | none => L'
abbrev bef (ops : Array Oper) (j i : Nat) : Bool := tbit ((befores ops.toList []).getD j 0) i

section
variable {tr : List Rec} {env0 e' : Env} {L0 L' : LHeap}

theorem Setting.len (h : Setting P call ops tr env0 L0 e' L') : tr.length = ops.size := by simpa using h.trc.length

theorem Setting.recd (h : Setting P call ops tr env0 L0 e' L') {j : Nat} {o : Oper} (ho : ops[j]? = some o) : ∃ rc, tr[j]? = some rc ∧ Loc P call ops.toList o rc ∧ envAt tr e' j = rc.env ∧ heapAt tr L' j = rc.L ∧
    envAt tr e' (j + 1) = put rc.env o.dst rc.v ∧ heapAt tr L' (j + 1) = rc.L' := by
  have hj := (Array.getElem?_eq_some_iff.1 ho).1
  have hlen := h.len
  obtain ⟨rc, hrc⟩ : ∃ rc, tr[j]? = some rc := ⟨tr[j], by simp⟩
  obtain ⟨h1, h2⟩ := h.trc.chain.2.2 j rc o hrc (by simpa using ho)
  refine ⟨rc, hrc, h1, by simp [envAt, hrc], by simp [heapAt, hrc], ?_⟩
  rcases h2 with ⟨rc', h3, h4, h5⟩ | ⟨h3, h4, h5⟩
  · simp [envAt, heapAt, h3, h4, h5]
  · simp [envAt, heapAt, h3, h4, h5]

theorem Setting.start (h : Setting P call ops tr env0 L0 e' L') : envAt tr e' 0 = env0 ∧ heapAt tr L' 0 = L0 := by
  cases htr : tr with
  | nil =>
    obtain ⟨h1, h2⟩ := h.trc.chain.1 htr
    simp [envAt, heapAt, h1, h2]
  | cons rc l =>
    obtain ⟨h1, h2⟩ := h.trc.chain.2.1 rc (by rw [htr]; rfl)
    simp [envAt, heapAt, h1, h2]

theorem Setting.final (h : Setting P call ops tr env0 L0 e' L') : envAt tr e' ops.size = e' ∧ heapAt tr L' ops.size = L' := by
  have : tr[ops.size]? = none := by rw [List.getElem?_eq_none]; rw [h.len]; exact Nat.le_refl _
  simp [envAt, heapAt, this]

/-- The heap does not turn where nothing is written. -/
theorem Setting.heap_same (h : Setting P call ops tr env0 L0 e' L') : ∀ (d p : Nat), p + d ≤ ops.size → (∀ q rc, p ≤ q → q < p + d → tr[q]? = some rc → rc.t ≠ 3) → heapAt tr L' (p + d) = heapAt tr L' p
  | 0, p, _, _ => rfl
  | d + 1, p, hle, hn => by
    have ih := h.heap_same d p (by omega) fun q rc h1 h2 => hn q rc h1 (by omega)
    have ho : ops[p + d]? = some ops[p + d] := by simp
    obtain ⟨rc, h1, h2, _, h4, _, h6⟩ := h.recd ho
    rw [show p + (d + 1) = p + d + 1 by omega, h6, ← ih, h4]
    have := hn (p + d) rc (by omega) (by omega) h1
    rcases h2 with h2 | h2 | h2 | h2
    · exact h2.2.2.2
    · exact h2.2.2.2.1
    · exact h2.2.2.2.1
    · exact absurd h2.1 this

/-- What a slot holds ahead of an operation: what was written last. -/
theorem Setting.env_look (h : Setting P call ops tr env0 L0 e' L') (t : Nat) : ∀ j, j ≤ ops.size →
    ((∃ (i : Nat) (o : Oper) (rc : Rec), i < j ∧ ops[i]? = some o ∧ tr[i]? = some rc ∧ o.dst = some t ∧ (∀ (k : Nat) (o' : Oper), i < k → k < j → ops[k]? = some o' → o'.dst ≠ some t) ∧ look (envAt tr e' j) t = some rc.v) ∨
     ((∀ (k : Nat) (o' : Oper), k < j → ops[k]? = some o' → o'.dst ≠ some t) ∧ look (envAt tr e' j) t = look env0 t))
  | 0, _ => .inr ⟨fun k _ hk => by omega, by rw [h.start.1]⟩
  | j + 1, hj => by
    have ho : ops[j]? = some ops[j] := by simp
    obtain ⟨rc, h1, _, h3, _, h5, _⟩ := h.recd ho
    by_cases hd : ops[j].dst = some t
    · refine .inl ⟨j, ops[j], rc, by omega, ho, h1, hd, fun k _ h6 h7 => by omega, ?_⟩
      rw [h5, hd]
      simp [put, look]
    · have hl : look (envAt tr e' (j + 1)) t = look (envAt tr e' j) t := by
        rw [h5, h3]
        cases hdd : ops[j].dst with
        | none => rfl
        | some d =>
          have : d.beq t = false := by
            cases hb : d.beq t with
            | false => rfl
            | true => exact absurd (by rw [hdd, Nat.eq_of_beq_eq_true hb]) hd
          simp [put, look, this]
      rcases h.env_look t j (by omega) with ⟨i, o, rci, g1, g2, g3, g4, g5, g6⟩ | ⟨g1, g2⟩
      · refine .inl ⟨i, o, rci, by omega, g2, g3, g4, fun k o' h6 h7 h8 => ?_, by rw [hl]; exact g6⟩
        rcases Nat.lt_or_ge k j with hk | hk
        · exact g5 k o' h6 hk h8
        · have : k = j := by omega
          subst this
          rw [ho] at h8; injection h8 with h8; subst h8
          exact hd
      · refine .inr ⟨fun k o' h6 h8 => ?_, by rw [hl]; exact g2⟩
        rcases Nat.lt_or_ge k j with hk | hk
        · exact g1 k o' hk h8
        · have : k = j := by omega
          subst this
          rw [ho] at h8; injection h8 with h8; subst h8
          exact hd

/-- Two operations that name one temporary that one of them writes are in order. -/
theorem Setting.order (h : Setting P call ops tr env0 L0 e' L') {i j : Nat} {x y : Oper} (hx : ops[i]? = some x) (hy : ops[j]? = some y) (hne : i ≠ j) {d : Nat} (hd : x.dst = some d)
    (hn : d ∈ tmpsOf ops.toList y ∨ y.dst = some d) : bef ops (max i j) (min i j) = true := by
  have hi := (Array.getElem?_eq_some_iff.1 hx).1
  have hj := (Array.getElem?_eq_some_iff.1 hy).1
  have h0 := h.ord
  unfold ordered at h0
  rw [Bool.and_eq_true] at h0
  have h1 := List.all_eq_true.1 h0.2 j (by simpa using hj)
  have h2 := List.all_eq_true.1 h1 i (by simpa using hi)
  have hb : Nat.beq i j = false := by
    cases hb : Nat.beq i j with
    | false => rfl
    | true => exact absurd (Nat.eq_of_beq_eq_true hb) hne
  have hx' : ops.toList[i]? = some x := by simpa using hx
  have hy' : ops.toList[j]? = some y := by simpa using hy
  simp only [hb, hif_false, cond_false, hx', hy', hd] at h2
  cases hyd : y.dst with
  | none =>
    rw [hyd] at h2 hn
    have h3 : (tmpsOf ops.toList y).any (Nat.beq d) = true := by
      rcases hn with hn | hn
      · exact List.any_eq_true.2 ⟨d, hn, Nat.beq_refl d⟩
      · cases hn
    simp only [h3, Bool.true_or, hif_true, cond_true] at h2
    exact h2
  | some d' =>
    rw [hyd] at h2 hn
    have h3 : ((tmpsOf ops.toList y).any (Nat.beq d) || Nat.beq d d') = true := by
      rw [Bool.or_eq_true]
      rcases hn with hn | hn
      · exact .inl (List.any_eq_true.2 ⟨d, hn, Nat.beq_refl d⟩)
      · injection hn with hn; subst hn; exact .inr (Nat.beq_refl d')
    simp only [h3, hif_true, cond_true] at h2
    exact h2

theorem Setting.back (h : Setting P call ops tr env0 L0 e' L') {j : Nat} {o : Oper} (ho : ops[j]? = some o) {e : Edge} (he : e ∈ o.after) (hb : Region.binds .any e = true) : e.on < j := by
  have hj := (Array.getElem?_eq_some_iff.1 ho).1
  have h0 := h.ord
  unfold ordered at h0
  rw [Bool.and_eq_true] at h0
  have h1 := List.all_eq_true.1 h0.1 j (by simpa using hj)
  have ho' : ops.toList[j]? = some o := by simpa using ho
  simp only [ho'] at h1
  have h2 := List.all_eq_true.1 h1 e (by simpa using he)
  rw [hb] at h2
  simpa using h2

/-- How far an order has come. -/
structure Inv (P : Program) (ops : Array Oper) (tr : List Rec) (env0 : Env) (L0 : LHeap) (L' : LHeap) (m0 : RMap) (w0 : World) (ds : List Deferred) (N : Nat) (listed : Array Bool) (a : Act) (w : World) : Prop where
  sz : listed.size = ops.size
  down : ∀ j i, listed[j]? = some true → bef ops j i = true → listed[i]? = some true
  state : ∃ m p, p ≤ ops.size ∧ (∀ (q : Nat) (rc : Rec), q < p → tr[q]? = some rc → rc.t = 3 → listed[q]? = some true) ∧ (∀ (q : Nat) (rc : Rec), p ≤ q → tr[q]? = some rc → rc.t = 3 → listed[q]? = some false) ∧
    Rep P m (heapAt tr L' p) w ∧ Tr m0 L0 w0 m (heapAt tr L' p) w ∧
    (∀ (t i : Nat) (rc : Rec) (o : Oper), tr[i]? = some rc → ops[i]? = some o → listed[i]? = some true → o.dst = some t → (∀ (k : Nat) (o' : Oper), i < k → ops[k]? = some o' → listed[k]? = some true → o'.dst ≠ some t) → ∃ v', a.tmps[t]? = some v' ∧ VR m rc.v v') ∧
    (∀ t : Nat, (∀ (k : Nat) (o' : Oper), ops[k]? = some o' → listed[k]? = some true → o'.dst ≠ some t) → ∀ v, look env0 t = some v → ∃ v', a.tmps[t]? = some v' ∧ VR m v v')
  defers : a.defers = ds
  size : a.tmps.size = N

theorem listed_set {listed : Array Bool} {j k : Nat} (hj : j < listed.size) : (listed.setIfInBounds j true)[k]? = some true ↔ (k = j ∨ listed[k]? = some true) := by
  rw [Array.getElem?_setIfInBounds]
  by_cases h : j = k
  · subst h; simp [hj]
  · rw [if_neg h]
    exact ⟨.inr, fun h' => h'.resolve_left fun e => h e.symm⟩

theorem listed_set_false {listed : Array Bool} {j k : Nat} (hj : j < listed.size) : (listed.setIfInBounds j true)[k]? = some false ↔ (k ≠ j ∧ listed[k]? = some false) := by
  rw [Array.getElem?_setIfInBounds]
  by_cases h : j = k
  · subst h; simp [hj]
  · rw [if_neg h]
    exact ⟨fun h' => ⟨fun e => h e.symm, h'⟩, fun h' => h'.2⟩

theorem listed_cases {listed : Array Bool} {k : Nat} (hk : k < listed.size) : listed[k]? = some true ∨ listed[k]? = some false := by
  rw [Array.getElem?_eq_getElem hk]
  cases listed[k] <;> simp

end
end
end Go.Rlm

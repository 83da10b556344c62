/- The logical machine and the model: steps, regions in the order of their text. -/
import Derived.Test.YtlcchghlhfamjaaRlmS12
import Derived.LoopN
import Derived.Scope
namespace Go.Rlm

/-- How a run ends. -/
def Ends (P : Program) (m : RMap) (L : LHeap) (w : World) (r : LR) (e : Ending) (w' : World) : Prop :=
  match r with
  | .ret v L' => ∃ m' v', e = .returned v' ∧ VR m' v v' ∧ Rep P m' L' w' ∧ Tr m L w m' L' w'
  | .pan v L' => ∃ m' v', e = .panicked [{ v := v', recovered := false }] ∧ VR m' v v' ∧ Rep P m' L' w' ∧ Tr m L w m' L' w'

/-- A caller that the model follows. -/
structure CallOk (P : Program) (call : Caller) : Prop where
  calls : ∀ f args L r, call f args L = some r → ∀ m w args', Rep P m L w → VRs m args args' → Calls P f ⟨args'⟩ w (Ends P m L w r)
  enters : ∀ f args L r, call f args L = some r → ∀ args' w, (callFunc f args').run P w = .ok (.enter f args') w

section
variable {P : Program} {env : Env} {L : LHeap} {r : LR}

theorem ER.put {m : RMap} {tmps : Array Value} (h : ER m env tmps) {dst : Option Nat} {v v' : Value} (hv : VR m v v') (hd : ∀ d, dst = some d → d < tmps.size) (a : Act) (ha : a.tmps = tmps) :
    ER m (Rlm.put env dst v) (a.put dst v').tmps := by
  cases dst with
  | none => simpa [Rlm.put, Act.put, ha] using h
  | some d =>
    intro t u hu
    simp only [Rlm.put, look, hif_eq, cond_eq_ite] at hu
    split at hu
    · rename_i hb
      have := Nat.eq_of_beq_eq_true hb
      subst this
      injection hu with hu
      subst hu
      refine ⟨v', ?_, hv⟩
      have := hd d rfl
      simp [Act.put, ha, this]
    · rename_i hb
      have hne : d ≠ t := fun e => hb (by rw [e]; exact Nat.beq_refl t)
      obtain ⟨x, h1, h2⟩ := h t u hu
      refine ⟨x, ?_, h2⟩
      simp [Act.put, ha, Array.getElem?_setIfInBounds_ne hne, h1]

theorem put_size (a : Act) (dst : Option Nat) (v : Value) : (a.put dst v).tmps.size = a.tmps.size := by cases dst <;> simp [Act.put]
theorem put_defers (a : Act) (dst : Option Nat) (v : Value) : (a.put dst v).defers = a.defers := by cases dst <;> rfl

theorem wants_ok {m : RMap} {ops : Array Oper} {a : Act} (he : ER m env a.tmps) {o : Oper} {b : Bool} (h : wants ops.toList env o = some b) : Region.wanted o (yielded ops a.tmps) = b := by
  unfold wants at h
  unfold Region.wanted
  split at h
  · rename_i hg
    injection h with h
    subst h
    rw [hg]
  · rename_i j w hg
    rw [hg]
    simp only
    split at h
    · cases h
    · rename_i d hd
      have hd' : (ops[j]?).bind (·.dst) = some d := by simpa [dstOf] using hd
      split at h
      · rename_i c hl
        injection h with h
        obtain ⟨v', h1, h2⟩ := he d _ hl
        rw [VR.of_bool h2] at h1
        simp only [yielded, hd', Option.bind_some, h1]
        rw [← h]
        cases c <;> cases w <;> rfl
      · rename_i vs hl
        simp only [hif_eq, cond_eq_ite] at h
        split at h
        case isFalse => cases h
        injection h with h
        obtain ⟨v', h1, h2⟩ := he d _ hl
        obtain ⟨vs', e, _⟩ := h2.of_tuple
        rw [e] at h1
        simp only [yielded, hd', Option.bind_some, h1]
        rw [← h]
        rfl
      · cases h

theorem split_ok {b : Bool} {v : Value} {K : Value → R} (h : split b v K = some r) : K v = some r := by
  unfold split at h
  cases b with
  | false => exact h
  | true =>
    simp only [hif_true, cond_true] at h
    split at h
    · rename_i c
      rw [lif_iff] at h
      rcases h with ⟨rfl, h⟩ | ⟨rfl, h⟩ <;> exact h
    · exact h

/-- What is asked of the end of a piece of code: it goes on where the machine goes on, or it is the machine's panic. -/
structure Goal (P : Program) (m : RMap) (L : LHeap) (w : World) (defers : List Deferred) (N : Nat) (r : LR) (K : Env → LHeap → R) (next : Act → World → Prop) (Q : Exit → Act → World → Prop) : Prop where
  go : ∀ env' L' m' w' a', K env' L' = some r → Rep P m' L' w' → ER m' env' a'.tmps → Tr m L w m' L' w' → a'.defers = defers → a'.tmps.size = N → next a' w'
  pan : ∀ v L' m' w' v' a', r = .pan v L' → VR m' v v' → Rep P m' L' w' → Tr m L w m' L' w' → a'.defers = defers → Q (.panic [{ v := v', recovered := false }]) a' w'

/-- One operation, calls among them. -/
theorem lstep_ok {call : Caller} (hc : CallOk P call) {o : Oper} {K : Value → LHeap → R} (h : lstep P call env L o K = some r) {m : RMap} {w : World} {a : Act} (hr : Rep P m L w) (he : ER m env a.tmps)
    {next : Act → World → Prop} {Q : Exit → Act → World → Prop}
    (go : ∀ v L' m' w' v', K v L' = some r → VR m' v v' → Rep P m' L' w' → Tr m L w m' L' w' → next (a.put o.dst v') w')
    (pan : ∀ v L' m' w' v', r = .pan v L' → VR m' v v' → Rep P m' L' w' → Tr m L w m' L' w' → Q (.panic [{ v := v', recovered := false }]) a w') : o.wp P a w next Q := by
  unfold Oper.wp
  have plain : lop P env L o K = some r → o.upon P a next Q ((execOp a.eval o).run P w) := fun h => by
    obtain ⟨v, L', h1, _, h3, _⟩ := lop_ok h
    have hd : Does P env L o v L' := by
      rcases h3 with ⟨rfl, h3⟩ | ⟨_, h3⟩
      · exact h3.does
      · exact h3
    obtain ⟨m', w', v', h4, h5, h6, h7⟩ := hd m w a hr he
    rcases h4 with h4 | ⟨h4, rfl⟩
    · rw [h4]; exact go v L' m' w' v' h1 h5 h6 h7
    · rw [h4]; exact go v L' m' w' _ h1 h5 h6 h7
  unfold lstep at h
  split at h
  · rename_i f args ts ho
    simp only [ev_eq, evs_eq, obind_iff] at h
    obtain ⟨fv, h1, vs, h2, h⟩ := h
    have hf := he.eval h1
    have hvs := he.evals h2
    unfold lapp at h
    split at h
    case h_2 => cases h
    rename_i g as bs
    obtain ⟨as', bs', hfv, has, hbs⟩ := hf.of_func
    have hargs : VRs m (as.toList ++ vs ++ bs.toList) (as'.toList ++ args.toList.map a.eval ++ bs'.toList) := (has.append hvs).append hbs
    cases hcall : call g (as.toList ++ vs ++ bs.toList) L with
    | none => rw [hcall] at h; cases h
    | some r1 =>
      rw [hcall] at h
      have hrun : (execOp a.eval o).run P w = .ok (.enter g ⟨as'.toList ++ args.toList.map a.eval ++ bs'.toList⟩) w := by
        have e : (as' ++ args.map a.eval ++ bs') = ⟨as'.toList ++ args.toList.map a.eval ++ bs'.toList⟩ := by apply Array.ext'; simp
        simp only [execOp, ho, resolve, hfv, Deferred.ofValue, Sem.run_bind, Sem.run_pure, Result.andThen_ok, invoke, e]
        exact hc.enters g _ L r1 hcall _ w
      rw [hrun]
      refine (hc.calls g _ L r1 hcall m w _ hr hargs).mono fun e w' hE => ?_
      cases r1 with
      | ret v L' =>
        obtain ⟨m', v', rfl, h4, h5, h6⟩ := hE
        simp only [lbind_ret] at h
        exact go v L' m' w' v' (typed_same (K := fun v => K v L') h).1 h4 h5 h6
      | pan v L' =>
        obtain ⟨m', v', rfl, h4, h5, h6⟩ := hE
        simp only [lbind_pan] at h
        injection h with h
        exact pan v L' m' w' v' h.symm h4 h5 h6
  · rename_i x ho
    simp only [ev_eq, obind_iff] at h
    obtain ⟨v, h1, h⟩ := h
    split at h
    case h_2 => cases h
    rename_i t u
    injection h with h
    have hv := he.eval h1
    obtain ⟨u', e, _⟩ := hv.of_iface
    have hrun : (execOp a.eval o).run P w = .halt (.panic (a.eval x)) w := by
      simp [execOp, ho, Instr.panic, e]
    rw [hrun]
    exact pan _ L m w _ h.symm hv hr (.refl m L w)
  · exact plain h

theorem Goal.trans {m : RMap} {w : World} {ds : List Deferred} {N : Nat} {K : Env → LHeap → R} {next : Act → World → Prop} {Q : Exit → Act → World → Prop} (h : Goal P m L w ds N r K next Q)
    {m1 : RMap} {L1 : LHeap} {w1 : World} (ht : Tr m L w m1 L1 w1) : Goal P m1 L1 w1 ds N r K next Q :=
  ⟨fun env' L' m' w' a' h1 h2 h3 h4 => h.go env' L' m' w' a' h1 h2 h3 (ht.trans h4), fun v L' m' w' v' a' h1 h2 h3 h4 => h.pan v L' m' w' v' a' h1 h2 h3 (ht.trans h4)⟩

/-- A region, in the order of its text. -/
theorem lrun_ok {call : Caller} (hc : CallOk P call) {ops : Array Oper} {N : Nat} {K : Env → LHeap → R} {Q : Exit → Act → World → Prop} : ∀ (rest : List Oper) (i : Nat) (env : Env) (L : LHeap) (m : RMap) (w : World) (a : Act),
    lrun P call ops.toList i rest env L K = some r → dstOk N rest = true → Rep P m L w → ER m env a.tmps → a.tmps.size = N → Goal P m L w a.defers N r K (Q .normal) Q → wpList P ops Q rest a w
  | [], i, env, L, m, w, a, h, _, hr, he, hN, hG => hG.go env L m w a h hr he (.refl m L w) rfl hN
  | o :: rest, i, env, L, m, w, a, h, hd, hr, he, hN, hG => by
    simp only [dstOk, List.all_cons, Bool.and_eq_true] at hd
    have hd1 : ∀ d, o.dst = some d → d < N := fun d e => by
      have := hd.1
      rw [e] at this
      simpa using this
    unfold lrun at h
    unfold wpList
    split at h
    · rename_i hw
      rw [if_pos (wants_ok he hw)]
      refine .inl (lstep_ok hc h hr he (fun v L' m' w' v' h1 h2 h3 h4 => ?_) fun v L' m' w' v' h1 h2 h3 h4 => hG.pan v L' m' w' v' a h1 h2 h3 h4 rfl)
      have h5 := split_ok h1
      refine lrun_ok hc rest (i + 1) _ L' m' w' (a.put o.dst v') h5 hd.2 h3 ((he.mono h4.ext).put h2 (fun d e => hN ▸ hd1 d e) a rfl) (by rw [put_size]; exact hN) ?_
      rw [put_defers]
      exact hG.trans h4
    · rename_i hw
      have := wants_ok he hw
      rw [if_neg (by rw [this]; simp)]
      refine lrun_ok hc rest (i + 1) _ L m w (a.put o.dst Go.undef) h hd.2 hr (he.put .undef (fun d e => hN ▸ hd1 d e) a rfl) (by rw [put_size]; exact hN) ?_
      rw [put_defers]
      exact hG
    · cases h

end
end Go.Rlm

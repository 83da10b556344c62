/- The logical machine and the model: operations that reckon with values alone. -/
import Derived.Test.YtlcchghlhfamjaaRlmS2
namespace Go.Rlm

theorem obind_iff {α : Type} {x : Option α} {f : α → R} {r : LR} : obind x f = some r ↔ ∃ a, x = some a ∧ f a = some r := by
  cases x <;> simp [obind]
theorem when_iff {b : Bool} {x : R} {r : LR} : when b x = some r ↔ b = true ∧ x = some r := by cases b <;> simp [when]
theorem cond_iff {b : Bool} {x : R} {r : LR} : hif b x none = some r ↔ b = true ∧ x = some r := by cases b <;> simp
theorem lif_iff {b : Bool} {x y : R} {r : LR} : lif b x y = some r ↔ (b = true ∧ x = some r) ∨ (b = false ∧ y = some r) := by cases b <;> simp [lif]

def evv (env : Env) : Operand → Option Value
  | .tmp t => look env t
  | .const v => bif flat v then some v else none
  | .global _ => none
  | .func f => some (.func (.func f) #[] #[])

theorem ev_eq (env : Env) (x : Operand) (K : Value → R) : ev env x K = obind (evv env x) K := by
  cases x with
  | tmp t => simp only [ev, evv]; cases look env t <;> rfl
  | const v => simp only [ev, evv]; cases flat v <;> rfl
  | global g => rfl
  | func f => rfl

def evvs (env : Env) : List Operand → Option (List Value)
  | [] => some []
  | x :: xs =>
    match evv env x, evvs env xs with
    | some v, some vs => some (v :: vs)
    | _, _ => none

theorem evs_eq (env : Env) : ∀ (xs : List Operand) (K : List Value → R), evs env xs K = obind (evvs env xs) K
  | [], K => rfl
  | x :: xs, K => by
    simp only [evs, ev_eq, evvs, evs_eq env xs]
    cases evv env x with
    | none => rfl
    | some v => cases evvs env xs <;> rfl

/-- The machine's temporaries and the model's. -/
def ER (m : RMap) (env : Env) (tmps : Array Value) : Prop := ∀ t v, look env t = some v → ∃ v', tmps[t]? = some v' ∧ VR m v v'

theorem ER.mono {m m' : RMap} {env : Env} {tmps : Array Value} (h : ER m env tmps) (hm : MExt m m') : ER m' env tmps :=
  fun t v hv => let ⟨v', h1, h2⟩ := h t v hv; ⟨v', h1, h2.mono hm⟩

theorem ER.eval {m : RMap} {env : Env} {a : Act} (h : ER m env a.tmps) {x : Operand} {v : Value} (hv : evv env x = some v) : VR m v (a.eval x) := by
  cases x with
  | tmp t =>
    obtain ⟨v', h1, h2⟩ := h t v hv
    simpa [Act.eval, h1] using h2
  | const u =>
    simp only [evv] at hv
    cases hf : flat u with
    | false => rw [hf] at hv; cases hv
    | true =>
      rw [hf] at hv
      injection hv with hv
      subst hv
      exact VR.flat hf
  | global g => cases hv
  | func f => injection hv with hv; subst hv; exact .func .nil .nil

theorem ER.evals {m : RMap} {env : Env} {a : Act} (h : ER m env a.tmps) : ∀ {xs : List Operand} {vs : List Value}, evvs env xs = some vs → VRs m vs (xs.map a.eval)
  | [], vs, hv => by injection hv with hv; subst hv; exact .nil
  | x :: xs, vs, hv => by
    simp only [evvs] at hv
    split at hv
    · rename_i v us h1 h2
      injection hv with hv
      subst hv
      exact .cons (h.eval h1) (h.evals h2)
    · cases hv

/-- An operation's answer, and the world. -/
def Gives (P : Program) (s : Sem Next) (w : World) (v' : Value) (w' : World) : Prop :=
  s.run P w = .ok (.value v') w' ∨ (s.run P w = .ok .skip w' ∧ v' = undef)

/-! ### binOp -/

/-- What an operator on two values comes to. -/
def BinOk (P : Program) (op : BinOp) (t : TypeId) (x y : Value) (K : Value → R) (r : LR) : Prop :=
  ∃ v, K v = some r ∧ (∀ K2, lbin P op t x y K2 = K2 v) ∧ ∀ (m : RMap) (x' y' : Value) (a b : Operand) (w : World), VR m x x' → VR m y y' →
      (do eqGuard op t a b x' y'; binOp op t x' y').run P w = .ok v w ∧ flat1 v = true

theorem BinOk.ints {P : Program} {op : BinOp} {t : TypeId} {k k' : IntKind} {a b : Int} {K : Value → R} {r : LR} (v : Value) (h1 : K v = some r) (h2 : ∀ K2, lbin P op t (.int k a) (.int k' b) K2 = K2 v)
    (h3 : ∀ (a' b' : Operand) w, (do eqGuard op t a' b' (.int k a) (.int k' b); binOp op t (.int k a) (.int k' b)).run P w = .ok v w ∧ flat1 v = true) : BinOk P op t (.int k a) (.int k' b) K r :=
  ⟨v, h1, h2, fun m x' y' a' b' w hx hy => by rw [hx.of_int, hy.of_int]; exact h3 a' b' w⟩
theorem BinOk.strs {P : Program} {op : BinOp} {t : TypeId} {a b : ByteArray} {K : Value → R} {r : LR} (v : Value) (h1 : K v = some r) (h2 : ∀ K2, lbin P op t (.string a) (.string b) K2 = K2 v)
    (h3 : ∀ (a' b' : Operand) w, (do eqGuard op t a' b' (.string a) (.string b); binOp op t (.string a) (.string b)).run P w = .ok v w ∧ flat1 v = true) : BinOk P op t (.string a) (.string b) K r :=
  ⟨v, h1, h2, fun m x' y' a' b' w hx hy => by rw [hx.of_string, hy.of_string]; exact h3 a' b' w⟩
theorem BinOk.bools {P : Program} {op : BinOp} {t : TypeId} {a b : Bool} {K : Value → R} {r : LR} (v : Value) (h1 : K v = some r) (h2 : ∀ K2, lbin P op t (.bool a) (.bool b) K2 = K2 v)
    (h3 : ∀ (a' b' : Operand) w, (do eqGuard op t a' b' (.bool a) (.bool b); binOp op t (.bool a) (.bool b)).run P w = .ok v w ∧ flat1 v = true) : BinOk P op t (.bool a) (.bool b) K r :=
  ⟨v, h1, h2, fun m x' y' a' b' w hx hy => by rw [hx.of_bool, hy.of_bool]; exact h3 a' b' w⟩

section
variable {P : Program} {w : World}
theorem equalIn_bool (d : Nat) (t : TypeId) (a b : Bool) (hu : P.underlying t = some .bool) : (Op.equalIn (d + 1) t (.bool a) (.bool b)).run P w = .ok (a == b) w := by
  simp [Op.equalIn, run_underlying hu]
theorem equalIn_ptr (d : Nat) (t e : TypeId) (a : Option Addr) (hu : P.underlying t = some (.pointer e)) : (Op.equalIn (d + 1) t (.pointer a) (.pointer none)).run P w = .ok a.isNone w := by
  cases a <;> simp [Op.equalIn, run_underlying hu]
theorem equalIn_slice (d : Nat) (t e : TypeId) (a : Option Addr) (n c n2 c2 : Nat) (hu : P.underlying t = some (.slice e)) : (Op.equalIn (d + 1) t (.slice a n c) (.slice none n2 c2)).run P w = .ok a.isNone w := by
  cases a <;> simp [Op.equalIn, run_underlying hu]
theorem equal_bool (t : TypeId) (a b : Bool) (hu : P.underlying t = some .bool) : (Op.equal t (.bool a) (.bool b)).run P w = .ok (a == b) w := equalIn_bool 9999 t a b hu
theorem equal_ptr (t e : TypeId) (a : Option Addr) (hu : P.underlying t = some (.pointer e)) : (Op.equal t (.pointer a) (.pointer none)).run P w = .ok a.isNone w := equalIn_ptr 9999 t e a hu
theorem equal_slice (t e : TypeId) (a : Option Addr) (n c n2 c2 : Nat) (hu : P.underlying t = some (.slice e)) : (Op.equal t (.slice a n c) (.slice none n2 c2)).run P w = .ok a.isNone w := equalIn_slice 9999 t e a n c n2 c2 hu
end

set_option maxHeartbeats 1000000 in
theorem lbin_ints {P : Program} {op : BinOp} {t : TypeId} {k k' : IntKind} {a b : Int} {K : Value → R} {r : LR} (h : lbin P op t (.int k a) (.int k' b) K = some r) : BinOk P op t (.int k a) (.int k' b) K r := by
  simp only [lbin] at h
  cases op <;> simp only [when_iff, cond_iff, decide_eq_true_eq, Bool.not_eq_true', decide_eq_false_iff_not] at h
  case shl => exact .ints _ h.2 (fun K2 => by simp [lbin, h.1]) (fun a' b' w => by simp [eqGuard, binOp, Op.shift, h.1, flat1])
  case shr => exact .ints _ h.2 (fun K2 => by simp [lbin, h.1]) (fun a' b' w => by simp [eqGuard, binOp, Op.shift, h.1, flat1])
  all_goals obtain ⟨hk, h⟩ := h; subst hk
  case quo => exact .ints _ h.2 (fun K2 => by simp [lbin, h.1]) (fun a' b' w => by simp [eqGuard, binOp, Op.intDiv, h.1, flat1])
  case rem => exact .ints _ h.2 (fun K2 => by simp [lbin, h.1]) (fun a' b' w => by simp [eqGuard, binOp, Op.intDiv, h.1, flat1])
  all_goals exact .ints _ h (fun K2 => by simp [lbin]) (fun a' b' w => by simp [eqGuard, binOp, Op.intArith, Op.intBits, Op.intCmp, bitop, flat1])

set_option maxHeartbeats 1000000 in
theorem lbin_strs {P : Program} {op : BinOp} {t : TypeId} {a b : ByteArray} {K : Value → R} {r : LR} (h : lbin P op t (.string a) (.string b) K = some r) : BinOk P op t (.string a) (.string b) K r := by
  simp only [lbin] at h
  cases op <;> simp only [when_iff, decide_eq_true_eq] at h <;> first | (cases h; done) | skip
  case add => exact .strs _ h.2 (fun K2 => by simp only [lbin, h.1, decide_true, when_true]) (fun a' b' w => by
      have h1 := h.1
      simp only [maxI] at h1
      have h2 : ¬ (((a.size + b.size : Nat) : Int) > IntKind.i64.max) := by
        have : IntKind.i64.max = 9223372036854775807 := by decide
        omega
      simp only [eqGuard, binOp, Op.stringOp, if_neg h2]
      simp [flat1])
  all_goals exact .strs _ h (fun K2 => by simp [lbin]) (fun a' b' w => by simp [eqGuard, binOp, Op.stringOp, flat1])

theorem lbin_ok {P : Program} {op : BinOp} {t : TypeId} {x y : Value} {K : Value → R} {r : LR} (h : lbin P op t x y K = some r) : BinOk P op t x y K r := by
  have h0 := h
  unfold lbin at h
  split at h
  · exact lbin_ints h0
  · exact lbin_strs h0
  · rename_i a b
    split at h
    · rename_i hu
      exact .bools _ h (fun K2 => by simp [lbin, hu]) (fun a' b' w => by simp [eqGuard, binOp, equal_bool _ _ _ hu, flat1])
    · rename_i hu
      exact .bools _ h (fun K2 => by simp [lbin, hu]) (fun a' b' w => by simp [eqGuard, binOp, equal_bool _ _ _ hu, flat1])
    · cases h
  · rename_i a
    have shape : ∀ (m : RMap) (x' : Value), VR m (.pointer a) x' → ∃ a', x' = .pointer a' ∧ a'.isNone = a.isNone := fun m x' hx => by
      cases a with
      | none => exact ⟨_, hx.of_nilPtr, rfl⟩
      | some a => obtain ⟨i, _, e⟩ := hx.of_ptr; exact ⟨_, e, rfl⟩
    split at h
    · rename_i hu
      refine ⟨_, h, fun K2 => by simp [lbin, hu], fun m x' y' a' b' w hx hy => ?_⟩
      obtain ⟨a2, rfl, e⟩ := shape m x' hx
      rw [hy.of_nilPtr, ← e]
      simp [eqGuard, binOp, equal_ptr _ _ _ hu, flat1]
    · rename_i hu
      refine ⟨_, h, fun K2 => by simp [lbin, hu], fun m x' y' a' b' w hx hy => ?_⟩
      obtain ⟨a2, rfl, e⟩ := shape m x' hx
      rw [hy.of_nilPtr, ← e]
      simp [eqGuard, binOp, equal_ptr _ _ _ hu, flat1]
    · cases h
  · rename_i a n c n2 c2
    have shape : ∀ (m : RMap) (x' : Value), VR m (.slice a n c) x' → ∃ a' n' c', x' = .slice a' n' c' ∧ a'.isNone = a.isNone := fun m x' hx => by
      cases a with
      | none => exact ⟨_, _, _, hx.of_nilSlice, rfl⟩
      | some a =>
        rcases hx.of_slice with ⟨_, i, _, rfl⟩ | ⟨_, i, _, rfl⟩ | ⟨_, _, a', c', rfl⟩ <;> exact ⟨_, _, _, rfl, rfl⟩
    split at h
    · rename_i hu
      refine ⟨_, h, fun K2 => by simp [lbin, hu], fun m x' y' a' b' w hx hy => ?_⟩
      obtain ⟨a2, n', c', rfl, e⟩ := shape m x' hx
      rw [hy.of_nilSlice, ← e]
      simp [eqGuard, binOp, equal_slice _ _ _ _ _ _ _ hu, flat1]
    · rename_i hu
      refine ⟨_, h, fun K2 => by simp [lbin, hu], fun m x' y' a' b' w hx hy => ?_⟩
      obtain ⟨a2, n', c', rfl, e⟩ := shape m x' hx
      rw [hy.of_nilSlice, ← e]
      simp [eqGuard, binOp, equal_slice _ _ _ _ _ _ _ hu, flat1]
    · cases h
  · cases h

theorem lun_ok {op : UnOp} {x : Value} {K : Value → R} {r : LR} (h : lun op x K = some r) :
    ∃ v, K v = some r ∧ (∀ K2, lun op x K2 = K2 v) ∧ ∀ (P : Program) (m : RMap) (x' : Value) (w : World), VR m x x' → (Op.unary op x').run P w = .ok v w ∧ flat1 v = true := by
  unfold lun at h
  split at h
  · exact ⟨_, h, fun K2 => rfl, fun P m x' w hx => by rw [hx.of_int]; simp [Op.unary, Op.intArith, flat1]⟩
  · exact ⟨_, h, fun K2 => rfl, fun P m x' w hx => by rw [hx.of_int]; simp [Op.unary, Op.intBits, bitop, flat1]⟩
  · exact ⟨_, h, fun K2 => rfl, fun P m x' w hx => by rw [hx.of_bool]; simp [Op.unary, flat1]⟩
  · cases h

/-! ### Values with their kinds laid open are the same values -/

def leafV (l : Leaf) (x : Option Value) : Option Value :=
  match l with
  | .i k => (x.bind (asI k)).map (.int k ·)
  | .b => (x.bind asB).map .bool
  | .s => (x.bind asS).map .string
  | .p => (x.bind asP).map .pointer
  | .sl => (x.bind asSl).map fun s => .slice s.a s.n s.c
  | .m => (x.bind asM).map .map
  | .raw => x

theorem leaf_eq (l : Leaf) (x : Option Value) (K : Value → R) : leaf l x K = obind (leafV l x) K := by
  cases l <;> simp only [leaf, leafV]
  case i k => cases x.bind (asI k) <;> rfl
  case b => cases x.bind asB <;> rfl
  case s => cases x.bind asS <;> rfl
  case p => cases x.bind asP <;> rfl
  case sl => cases x.bind asSl <;> rfl
  case m => cases x.bind asM <;> rfl

theorem leafV_same {l : Leaf} {x : Option Value} {v : Value} (h : leafV l x = some v) : x = some v := by
  cases x with
  | none => cases l <;> simp [leafV] at h
  | some u =>
    cases l <;> simp only [leafV, Option.bind_some, Option.map_eq_some_iff] at h
    case i k => obtain ⟨n, h1, rfl⟩ := h; cases u <;> simp [asI] at h1; obtain ⟨rfl, rfl⟩ := h1; rfl
    case b => obtain ⟨n, h1, rfl⟩ := h; cases u <;> simp [asB] at h1; subst h1; rfl
    case s => obtain ⟨n, h1, rfl⟩ := h; cases u <;> simp [asS] at h1; subst h1; rfl
    case p => obtain ⟨n, h1, rfl⟩ := h; cases u <;> simp [asP] at h1; subst h1; rfl
    case sl => obtain ⟨n, h1, rfl⟩ := h; cases u <;> simp [asSl] at h1; subst h1; rfl
    case m => obtain ⟨n, h1, rfl⟩ := h; cases u <;> simp [asM] at h1; subst h1; rfl
    case raw => exact h

theorem unLeaves_same : ∀ {ls : List Leaf} {vs : List Value} {K : List Value → R} {r : LR}, unLeaves ls vs K = some r → ls.length = vs.length →
    K vs = some r ∧ ∀ K2, unLeaves ls vs K2 = K2 vs
  | [], vs, K, r, h, hl => by
    have : vs = [] := List.eq_nil_of_length_eq_zero (by simpa using hl.symm)
    subst this
    exact ⟨h, fun _ => rfl⟩
  | l :: ls, [], K, r, h, hl => by simp at hl
  | l :: ls, v :: vs, K, r, h, hl => by
    simp only [unLeaves, uncons_cons, leaf_eq, obind_iff] at h
    obtain ⟨u, h1, h2⟩ := h
    have h3 := leafV_same h1
    injection h3 with h3
    subst h3
    obtain ⟨h4, h5⟩ := unLeaves_same h2 (by simpa using hl)
    exact ⟨h4, fun K2 => by simp only [unLeaves, uncons_cons, leaf_eq, h1, obind_some, h5]⟩

theorem typed1_same {P : Program} {t : TypeId} {v : Value} {K : Value → R} {r : LR} (h : typed1 P t v K = some r) : K v = some r ∧ ∀ K2, typed1 P t v K2 = K2 v := by
  unfold typed1 at h ⊢
  cases ha : isAggT P t with
  | true =>
    simp only [ha, hif_true, cond_true] at h ⊢
    cases hl : leaves P 20 t with
    | some ls =>
      simp only [hl, obind_iff] at h ⊢
      obtain ⟨cs, h1, h2⟩ := h
      cases v <;> simp only [aggL] at h1 <;> first | (cases h1; done) | skip
      rename_i xs
      simp only [hif_eq, cond_eq_ite] at h1
      split at h1
      case isFalse => cases h1
      rename_i hb
      have hb := Nat.eq_of_beq_eq_true hb
      injection h1 with h1
      subst h1
      obtain ⟨h3, h4⟩ := unLeaves_same h2 hb.symm
      refine ⟨by simpa using h3, fun K2 => ?_⟩
      simp only [aggL, hb, Nat.beq_refl, hif_true, cond_true, obind_some, h4]
    | none =>
      simp only [hl, obind_iff] at h ⊢
      obtain ⟨cs, h1, h2⟩ := h
      cases v <;> simp only [asAgg] at h1 <;> first | (cases h1; done) | skip
      injection h1 with h1
      subst h1
      exact ⟨h2, fun K2 => rfl⟩
  | false =>
    simp only [ha, hif_false, cond_false] at h ⊢
    split at h
    · simp only [leaf_eq, obind_iff] at h ⊢
      obtain ⟨u, h1, h2⟩ := h
      have h3 := leafV_same h1
      injection h3 with h3
      subst h3
      exact ⟨h2, fun K2 => by rw [h1]; rfl⟩
    · exact ⟨h, fun _ => rfl⟩

theorem typedAll_same {P : Program} : ∀ {ts : List TypeId} {vs : List Value} {K : List Value → R} {r : LR}, typedAll P ts vs K = some r → K vs = some r ∧ ∀ K2, typedAll P ts vs K2 = K2 vs
  | [], [], K, r, h => ⟨h, fun _ => rfl⟩
  | [], v :: vs, K, r, h => by cases h
  | l :: ls, [], K, r, h => by cases h
  | t :: ts, v :: vs, K, r, h => by
    simp only [typedAll, uncons_cons] at h
    obtain ⟨h1, h2⟩ := typed1_same h
    obtain ⟨h3, h4⟩ := typedAll_same (K := fun xs => K (v :: xs)) h1
    exact ⟨h3, fun K2 => by simp only [typedAll, uncons_cons, h2, h4]⟩

theorem typed_same {P : Program} {t : TypeId} {v : Value} {K : Value → R} {r : LR} (h : typed P t v K = some r) : K v = some r ∧ ∀ K2, typed P t v K2 = K2 v := by
  unfold typed at h ⊢
  split at h
  · rename_i ts hu
    cases he : ts.isEmpty with
    | true => rw [he] at h; exact ⟨h, fun _ => rfl⟩
    | false =>
      rw [he] at h
      simp only [hif_false, cond_false, obind_iff] at h
      obtain ⟨vs, h1, h2⟩ := h
      obtain ⟨h3, h4⟩ := typedAll_same h2
      cases v <;> simp only [tupL] at h1 <;> first | (cases h1; done) | skip
      injection h1 with h1
      subst h1
      exact ⟨by simpa using h3, fun K2 => by simp only [hif_false, cond_false, tupL, obind_some, h4]⟩
  · exact typed1_same h

end Go.Rlm

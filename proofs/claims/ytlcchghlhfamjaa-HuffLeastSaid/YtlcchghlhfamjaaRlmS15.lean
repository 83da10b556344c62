/- The logical machine and the model: a region that leaves its order open: whatever order is taken. -/
import Derived.Test.YtlcchghlhfamjaaRlmS14
namespace Go.Rlm

section
variable {P : Program} {r : LR} {call : Caller} {ops : List Oper} {bef : List Nat}

/-- What is known of one operation of the trace by itself. -/
def Loc (P : Program) (call : Caller) (ops : List Oper) (o : Oper) (rc : Rec) : Prop :=
  (rc.t = 0 ∧ wants ops rc.env o = some false ∧ rc.v = .tuple #[] ∧ rc.L' = rc.L) ∨
  (rc.t = 1 ∧ wants ops rc.env o = some true ∧ kindOf P o.op = .pure ∧ rc.L' = rc.L ∧ ∀ L2, Val P o rc.env L2 rc.v) ∨
  (rc.t = 2 ∧ wants ops rc.env o = some true ∧ kindOf P o.op = .read ∧ rc.L' = rc.L ∧ Val P o rc.env rc.L rc.v) ∨
  (rc.t = 3 ∧ wants ops rc.env o = some true ∧ kindOf P o.op = .write ∧ ∀ K2, lstepD P call rc.env rc.L o K2 = K2 rc.v rc.L')

theorem Trc.length {i rest env L past log tr e' L'} (h : Trc P call ops bef i rest env L past log tr e' L') : tr.length = rest.length := by
  induction h <;> simp_all

/-- How the records hang together. -/
theorem Trc.chain {i rest env L past log tr e' L'} (h : Trc P call ops bef i rest env L past log tr e' L') :
    (tr = [] → e' = env ∧ L' = L) ∧ (∀ rc, tr[0]? = some rc → rc.env = env ∧ rc.L = L) ∧
    ∀ (j : Nat) (rc : Rec) (o : Oper), tr[j]? = some rc → rest[j]? = some o → Loc P call ops o rc ∧
      ((∃ rc', tr[j + 1]? = some rc' ∧ rc'.env = put rc.env o.dst rc.v ∧ rc'.L = rc.L') ∨ (tr[j + 1]? = none ∧ e' = put rc.env o.dst rc.v ∧ L' = rc.L')) := by
  have step : ∀ {o : Oper} {rest : List Oper} {rc0 : Rec} {tr : List Rec} {env' : Env} {L1 : LHeap} {e' : Env} {L' : LHeap}, env' = put rc0.env o.dst rc0.v → L1 = rc0.L' → Loc P call ops o rc0 →
      (tr = [] → e' = env' ∧ L' = L1) → (∀ rc, tr[0]? = some rc → rc.env = env' ∧ rc.L = L1) →
      (∀ (j : Nat) (rc : Rec) (o : Oper), tr[j]? = some rc → rest[j]? = some o → Loc P call ops o rc ∧
        ((∃ rc', tr[j + 1]? = some rc' ∧ rc'.env = put rc.env o.dst rc.v ∧ rc'.L = rc.L') ∨ (tr[j + 1]? = none ∧ e' = put rc.env o.dst rc.v ∧ L' = rc.L'))) →
      ∀ (j : Nat) (rc : Rec) (o' : Oper), (rc0 :: tr)[j]? = some rc → (o :: rest)[j]? = some o' → Loc P call ops o' rc ∧
        ((∃ rc', (rc0 :: tr)[j + 1]? = some rc' ∧ rc'.env = put rc.env o'.dst rc.v ∧ rc'.L = rc.L') ∨ ((rc0 :: tr)[j + 1]? = none ∧ e' = put rc.env o'.dst rc.v ∧ L' = rc.L')) := by
    intro o rest rc0 tr env' L1 e' L' h1 h2 h3 h4 h5 h6 j rc o' h7 h8
    cases j with
    | zero =>
      simp at h7 h8
      subst h7; subst h8
      refine ⟨h3, ?_⟩
      cases tr with
      | nil =>
        obtain ⟨g1, g2⟩ := h4 rfl
        exact .inr ⟨rfl, g1.trans h1, g2.trans h2⟩
      | cons x tr =>
        obtain ⟨g1, g2⟩ := h5 x rfl
        exact .inl ⟨x, rfl, g1.trans h1, g2.trans h2⟩
    | succ j =>
      simp at h7 h8
      simpa using h6 j rc o' h7 h8
  induction h with
  | nil => exact ⟨fun _ => ⟨rfl, rfl⟩, by simp, by simp⟩
  | skip hw h ih =>
    refine ⟨fun h => by simp at h, fun rc h => ?_, step rfl rfl (.inl ⟨rfl, hw, rfl, rfl⟩) ih.1 ih.2.1 ih.2.2⟩
    simp at h; subst h; exact ⟨rfl, rfl⟩
  | pure hw hk hv h ih =>
    refine ⟨fun h => by simp at h, fun rc h => ?_, step rfl rfl (.inr (.inl ⟨rfl, hw, hk, rfl, hv⟩)) ih.1 ih.2.1 ih.2.2⟩
    simp at h; subst h; exact ⟨rfl, rfl⟩
  | read hw hk hv hp h ih =>
    refine ⟨fun h => by simp at h, fun rc h => ?_, step rfl rfl (.inr (.inr (.inl ⟨rfl, hw, hk, rfl, hv⟩))) ih.1 ih.2.1 ih.2.2⟩
    simp at h; subst h; exact ⟨rfl, rfl⟩
  | write hw hk hv hp hl h ih =>
    refine ⟨fun h => by simp at h, fun rc h => ?_, step rfl rfl (.inr (.inr (.inr ⟨rfl, hw, hk, hv⟩))) ih.1 ih.2.1 ih.2.2⟩
    simp at h; subst h; exact ⟨rfl, rfl⟩

/-- Reads and writes with what lies ahead of the trace. -/
theorem Trc.ahead {i rest env L past log tr e' L'} (h : Trc P call ops bef i rest env L past log tr e' L') : ∀ (j : Nat) (rc : Rec) (o : Oper), tr[j]? = some rc → rest[j]? = some o →
    (rc.t = 3 → (∀ q H, (q, H) ∈ past → tbit (bef.getD (i + j) 0) q = true) ∧ (∀ q rd, (q, rd) ∈ log → tbit (bef.getD (i + j) 0) q = false → Val P rd.o rd.env rc.L' rd.v)) ∧
    (rc.t = 2 → ∀ q H, (q, H) ∈ past → tbit (bef.getD (i + j) 0) q = false → Val P o rc.env H rc.v) := by
  induction h with
  | nil => intro j rc o h; simp at h
  | skip hw h ih =>
    intro j rc o h1 h2
    cases j with
    | zero => simp at h1; subst h1; exact ⟨fun e => by simp at e, fun e => by simp at e⟩
    | succ j =>
      simp at h1 h2
      have := ih j rc o h1 h2
      simpa [Nat.add_assoc, Nat.add_comm 1 j] using this
  | pure hw hk hv h ih =>
    intro j rc o h1 h2
    cases j with
    | zero => simp at h1; subst h1; exact ⟨fun e => by simp at e, fun e => by simp at e⟩
    | succ j =>
      simp at h1 h2
      have := ih j rc o h1 h2
      simpa [Nat.add_assoc, Nat.add_comm 1 j] using this
  | read hw hk hv hp h ih =>
    intro j rc o h1 h2
    cases j with
    | zero => simp at h1 h2; subst h1; subst h2; exact ⟨fun e => by simp at e, fun _ => hp⟩
    | succ j =>
      simp at h1 h2
      obtain ⟨g1, g2⟩ := ih j rc o h1 h2
      rw [show ∀ i, i + 1 + j = i + (j + 1) from fun i => by omega] at g1 g2
      exact ⟨fun e => ⟨(g1 e).1, fun q rd hm => (g1 e).2 q rd (List.mem_cons_of_mem _ hm)⟩, g2⟩
  | write hw hk hv hp hl h ih =>
    intro j rc o h1 h2
    cases j with
    | zero => simp at h1 h2; subst h1; subst h2; exact ⟨fun _ => ⟨hp, hl⟩, fun e => by simp at e⟩
    | succ j =>
      simp at h1 h2
      obtain ⟨g1, g2⟩ := ih j rc o h1 h2
      rw [show ∀ i, i + 1 + j = i + (j + 1) from fun i => by omega] at g1 g2
      exact ⟨fun e => ⟨fun q H hm => (g1 e).1 q H (List.mem_cons_of_mem _ hm), (g1 e).2⟩, fun e q H hm => g2 e q H (List.mem_cons_of_mem _ hm)⟩

/-- Reads and writes with one another. -/
theorem Trc.pairs {i rest env L past log tr e' L'} (h : Trc P call ops bef i rest env L past log tr e' L') : ∀ (j k : Nat) (rc rk : Rec) (o ok : Oper), j < k → tr[j]? = some rc → tr[k]? = some rk → rest[j]? = some o → rest[k]? = some ok →
    (rc.t = 3 → rk.t = 3 → tbit (bef.getD (i + k) 0) (i + j) = true) ∧
    (rc.t = 3 → rk.t = 2 → tbit (bef.getD (i + k) 0) (i + j) = false → Val P ok rk.env rc.L rk.v) ∧
    (rc.t = 2 → rk.t = 3 → tbit (bef.getD (i + k) 0) (i + j) = false → Val P o rc.env rk.L' rc.v) := by
  induction h with
  | nil => intro j k rc rk o ok hj h; simp at h
  | skip hw h ih =>
    intro j k rc rk o ok hj h1 h2 h3 h4
    cases k with
    | zero => omega
    | succ k =>
      cases j with
      | zero => simp at h1; subst h1; exact ⟨fun e => by simp at e, fun e => by simp at e, fun e => by simp at e⟩
      | succ j =>
        simp at h1 h2 h3 h4
        have := ih j k rc rk o ok (by omega) h1 h2 h3 h4
        simpa [Nat.add_assoc, Nat.add_comm 1] using this
  | pure hw hk hv h ih =>
    intro j k rc rk o ok hj h1 h2 h3 h4
    cases k with
    | zero => omega
    | succ k =>
      cases j with
      | zero => simp at h1; subst h1; exact ⟨fun e => by simp at e, fun e => by simp at e, fun e => by simp at e⟩
      | succ j =>
        simp at h1 h2 h3 h4
        have := ih j k rc rk o ok (by omega) h1 h2 h3 h4
        simpa [Nat.add_assoc, Nat.add_comm 1] using this
  | @read i o rest env L past log tr e' L' v hw hk hv hp h ih =>
    intro j k rc rk o2 ok hj h1 h2 h3 h4
    cases k with
    | zero => omega
    | succ k =>
      cases j with
      | zero =>
        simp at h1 h2 h3 h4
        subst h1; subst h3
        obtain ⟨g1, _⟩ := h.ahead k rk ok h2 h4
        rw [show i + 1 + k = i + (k + 1) by omega] at g1
        exact ⟨fun e => by simp at e, fun e => by simp at e, fun _ e hb => (g1 e).2 i ⟨o, env, v⟩ (by simp) (by simpa using hb)⟩
      | succ j =>
        simp at h1 h2 h3 h4
        have := ih j k rc rk o2 ok (by omega) h1 h2 h3 h4
        simpa [Nat.add_assoc, Nat.add_comm 1] using this
  | @write i o rest env L L1 past log tr e' L' v hw hk hv hp hl h ih =>
    intro j k rc rk o2 ok hj h1 h2 h3 h4
    cases k with
    | zero => omega
    | succ k =>
      cases j with
      | zero =>
        simp at h1 h2 h3 h4
        subst h1; subst h3
        obtain ⟨g1, g2⟩ := h.ahead k rk ok h2 h4
        rw [show i + 1 + k = i + (k + 1) by omega] at g1 g2
        exact ⟨fun _ e => by simpa using (g1 e).1 i L (by simp), fun _ e hb => g2 e i L (by simp) (by simpa using hb), fun e => by simp at e⟩
      | succ j =>
        simp at h1 h2 h3 h4
        have := ih j k rc rk o2 ok (by omega) h1 h2 h3 h4
        simpa [Nat.add_assoc, Nat.add_comm 1] using this

/-! ### What is before what -/

theorem tbit_eq (x n : Nat) : tbit x n = x.testBit n := by
  rw [Nat.testBit_eq_decide_div_mod_eq]
  unfold tbit
  by_cases h : x / 2 ^ n % 2 = 1
  · rw [h]; rfl
  · rw [decide_eq_false h]
    cases hb : (x / 2 ^ n % 2).beq 1 with
    | false => rfl
    | true => exact absurd (Nat.eq_of_beq_eq_true hb) h
theorem tbit_or (a b n : Nat) : tbit (a ||| b) n = (tbit a n || tbit b n) := by rw [tbit_eq, tbit_eq, tbit_eq, Nat.testBit_or]
theorem tbit_pow (a n : Nat) : tbit (2 ^ a) n = decide (a = n) := by rw [tbit_eq, Nat.testBit_two_pow]
theorem tbit_zero (n : Nat) : tbit 0 n = false := by rw [tbit_eq, Nat.zero_testBit]

theorem befores_get : ∀ (l : List Oper) (acc : List Nat) (j : Nat) (o : Oper), l[j]? = some o → ∀ i, tbit ((befores l acc).getD (acc.length + j) 0) i = true →
    ∃ e ∈ o.after.toList, Region.binds .any e = true ∧ (e.on = i ∨ (e.on < acc.length + j ∧ tbit ((befores l acc).getD e.on 0) i = true))
  | [], _, _, _, h => by simp at h
  | x :: l, acc, j, o, h => by
    intro i hi
    have keepAcc : ∀ (l : List Oper) (acc : List Nat) (q : Nat), q < acc.length → (befores l acc).getD q 0 = acc.getD q 0 := by
      intro l
      induction l with
      | nil => intro acc q _; rfl
      | cons x l ih =>
        intro acc q hq
        simp only [befores]
        rw [ih _ q (by simp; omega)]
        simp [List.getD, List.getElem?_append_left hq]
    cases j with
    | zero =>
      simp at h
      subst h
      simp only [befores, Nat.add_zero] at hi ⊢
      rw [keepAcc _ _ acc.length (by simp)] at hi
      have e0 : (acc ++ [x.after.toList.foldl (fun s e => bif Region.binds .any e then s ||| 2 ^ e.on ||| acc.getD e.on 0 else s) 0]).getD acc.length 0 = x.after.toList.foldl (fun s e => bif Region.binds .any e then s ||| 2 ^ e.on ||| acc.getD e.on 0 else s) 0 := by simp [List.getD]
      rw [e0] at hi
      have fold : ∀ (es : List Edge) (s : Nat), tbit (es.foldl (fun s e => bif Region.binds .any e then s ||| 2 ^ e.on ||| acc.getD e.on 0 else s) s) i = true → tbit s i = true ∨ ∃ e ∈ es, Region.binds .any e = true ∧ (e.on = i ∨ tbit (acc.getD e.on 0) i = true) := by
        intro es
        induction es with
        | nil => intro s h; exact .inl h
        | cons e es ih =>
          intro s h
          rw [List.foldl_cons] at h
          rcases ih _ h with h1 | ⟨e', h1, h2⟩
          · cases hb : Region.binds .any e with
            | false => rw [hb] at h1; exact .inl h1
            | true =>
              rw [hb] at h1
              simp only [hif_true, cond_true, tbit_or, tbit_pow, Bool.or_eq_true, decide_eq_true_eq] at h1
              rcases h1 with (h1 | h1) | h1
              · exact .inl h1
              · exact .inr ⟨e, by simp, hb, .inl h1⟩
              · exact .inr ⟨e, by simp, hb, .inr h1⟩
          · exact .inr ⟨e', by simp [h1], h2⟩
      rcases fold _ 0 hi with h1 | ⟨e, h1, h2, h3⟩
      · rw [tbit_zero] at h1; cases h1
      · refine ⟨e, h1, h2, ?_⟩
        rcases h3 with h3 | h3
        · exact .inl h3
        · have hlt : e.on < acc.length := by
            rcases Nat.lt_or_ge e.on acc.length with h | h
            · exact h
            · simp [List.getD, List.getElem?_eq_none h, tbit_zero] at h3
          refine .inr ⟨hlt, ?_⟩
          rw [keepAcc _ _ e.on (by simp; omega)]
          simpa [List.getD, List.getElem?_append_left hlt] using h3
    | succ j =>
      simp only [List.getElem?_cons_succ] at h
      simp only [befores] at hi ⊢
      have e1 : ∀ c : Nat, (acc ++ [c]).length + j = acc.length + (j + 1) := fun c => by simp; omega
      have := befores_get l _ j o h i (by rw [e1]; exact hi)
      obtain ⟨e, h1, h2, h3⟩ := this
      refine ⟨e, h1, h2, ?_⟩
      rcases h3 with h3 | ⟨h3, h4⟩
      · exact .inl h3
      · exact .inr ⟨by rw [e1] at h3; exact h3, h4⟩

theorem bef_get {j : Nat} {o : Oper} (h : ops[j]? = some o) {i : Nat} (hi : tbit ((befores ops []).getD j 0) i = true) :
    ∃ e ∈ o.after.toList, Region.binds .any e = true ∧ (e.on = i ∨ tbit ((befores ops []).getD e.on 0) i = true) := by
  obtain ⟨e, h1, h2, h3⟩ := befores_get ops [] j o h i (by simpa using hi)
  refine ⟨e, h1, h2, ?_⟩
  rcases h3 with h3 | ⟨_, h3⟩
  · exact .inl h3
  · exact .inr h3

end
end Go.Rlm

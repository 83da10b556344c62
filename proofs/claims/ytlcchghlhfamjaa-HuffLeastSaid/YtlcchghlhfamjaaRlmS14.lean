/- The logical machine and the model: a region that leaves its order open. -/
import Derived.Test.YtlcchghlhfamjaaRlmS13
import Derived.Orders
namespace Go.Rlm

section
variable {P : Program} {r : LR}

/-! ### An operation sees its operands alone -/

theorem evvs_congr {env env' : Env} : ∀ {xs : List Operand}, (∀ x ∈ xs, evv env x = evv env' x) → evvs env xs = evvs env' xs
  | [], _ => rfl
  | x :: xs, h => by
    simp only [evvs, h x (by simp), evvs_congr (xs := xs) fun y hy => h y (by simp [hy])]

theorem evo_congr {env env' : Env} {x : Option Operand} (h : ∀ y, x = some y → evv env y = evv env' y) (K : Option Int → R) : evo env x K = evo env' x K := by
  cases x with
  | none => rfl
  | some y => simp only [evo, ev_eq, h y rfl]

theorem evParts_congr {env env' : Env} (place : Nat → Option (Nat × Nat)) : ∀ {ps : List (Nat × Operand)} (K : List (Nat × Nat × Value) → R), (∀ p ∈ ps, evv env p.2 = evv env' p.2) → evParts env place ps K = evParts env' place ps K
  | [], _, _ => rfl
  | (i, x) :: ps, K, h => by
    simp only [evParts, ev_eq]
    rw [h (i, x) (by simp)]
    cases place i with
    | none => rfl
    | some p =>
      simp only
      congr 1
      funext v
      exact evParts_congr place _ fun q hq => h q (by simp [hq])

theorem lop_congr {env env' : Env} {L : LHeap} {o : Oper} (h : ∀ x ∈ o.op.operands, evv env x = evv env' x) (K : Value → LHeap → R) : lop P env L o K = lop P env' L o K := by
  obtain ⟨dst, op, ty, pos, after, guard⟩ := o
  simp only at h
  cases op with
  | build t ps =>
    have hp : ∀ p ∈ ps.toList, evv env p.2 = evv env' p.2 := fun p hp => h p.2 (by simp only [Op.operands, List.mem_toArray, List.mem_map]; exact ⟨p, hp, rfl⟩)
    simp only [lop]
    split
    · congr 1; congr 1; funext z; exact evParts_congr _ _ hp
    · congr 1; congr 1; funext z; exact evParts_congr _ _ hp
    · rfl
  | buildSlice t n ps =>
    have hp : ∀ p ∈ ps.toList, evv env p.2 = evv env' p.2 := fun p hp => h p.2 (by simp only [Op.operands, List.mem_toArray, List.mem_map]; exact ⟨p, hp, rfl⟩)
    simp only [lop]
    split
    · congr 1; funext z; exact evParts_congr _ _ hp
    · rfl
  | makeFunc f xs ys =>
    have h1 : evvs env xs.toList = evvs env' xs.toList := evvs_congr fun x hx => h x (by simp [Op.operands]; exact .inl (by simpa using hx))
    have h2 : evvs env ys.toList = evvs env' ys.toList := evvs_congr fun x hx => h x (by simp [Op.operands]; exact .inr (by simpa using hx))
    cases f <;> simp only [lop, evs_eq, h1, h2]
  | call c =>
    obtain ⟨callee, args, ts⟩ := c
    cases callee with
    | builtin b =>
      have h1 : evvs env args.toList = evvs env' args.toList := evvs_congr fun x hx => h x (by simp [Op.operands, Call.operands]; simpa using hx)
      simp only [lop, evs_eq, h1]
    | _ => rfl
  | slice t x lo hi mx =>
    have h0 : evv env x = evv env' x := h x (by simp [Op.operands])
    have e1 := fun K => evo_congr (env := env) (env' := env') (x := lo) (fun y hy => h y (by subst hy; simp [Op.operands])) K
    have e2 := fun K => evo_congr (env := env) (env' := env') (x := hi) (fun y hy => h y (by subst hy; simp [Op.operands])) K
    have e3 := fun K => evo_congr (env := env) (env' := env') (x := mx) (fun y hy => h y (by subst hy; simp [Op.operands])) K
    simp only [lop, ev_eq, h0, e1, e2, e3]
  | pick c x y =>
    have h0 := h c (by simp [Op.operands])
    have h1 := h x (by simp [Op.operands])
    have h2 := h y (by simp [Op.operands])
    simp only [lop, ev_eq, h0, h1, h2]
  | store t x y => simp only [lop, ev_eq, h x (by simp [Op.operands]), h y (by simp [Op.operands])]
  | binOp b t x y yt => simp only [lop, ev_eq, h x (by simp [Op.operands]), h y (by simp [Op.operands])]
  | makeSlice t x y => simp only [lop, ev_eq, h x (by simp [Op.operands]), h y (by simp [Op.operands])]
  | indexAddr t x y => simp only [lop, ev_eq, h x (by simp [Op.operands]), h y (by simp [Op.operands])]
  | index t x y => simp only [lop, ev_eq, h x (by simp [Op.operands]), h y (by simp [Op.operands])]
  | move x => simp only [lop, ev_eq, h x (by simp [Op.operands])]
  | assign x => simp only [lop, ev_eq, h x (by simp [Op.operands])]
  | box t x => simp only [lop, ev_eq, h x (by simp [Op.operands])]
  | load t x => simp only [lop, ev_eq, h x (by simp [Op.operands])]
  | nilCheck x => simp only [lop, ev_eq, h x (by simp [Op.operands])]
  | unOp u t x => simp only [lop, ev_eq, h x (by simp [Op.operands])]
  | convert s d x => simp only [lop, ev_eq, h x (by simp [Op.operands])]
  | makeInterface t x => simp only [lop, ev_eq, h x (by simp [Op.operands])]
  | fieldAddr s x j => simp only [lop, ev_eq, h x (by simp [Op.operands])]
  | field s x j => simp only [lop, ev_eq, h x (by simp [Op.operands])]
  | extract x j => simp only [lop, ev_eq, h x (by simp [Op.operands])]
  | _ => rfl

theorem lstepD_congr {call : Caller} {env env' : Env} {L : LHeap} {o : Oper} (h : ∀ x ∈ o.op.operands, evv env x = evv env' x) (K : Value → LHeap → R) : lstepD P call env L o K = lstepD P call env' L o K := by
  unfold lstepD
  split
  · rename_i f args ts ho
    have h1 : evv env f = evv env' f := h f (by rw [ho]; simp [Op.operands, Call.operands])
    have h2 : evvs env args.toList = evvs env' args.toList := evvs_congr fun x hx => h x (by rw [ho]; simp [Op.operands, Call.operands]; exact .inr (by simpa using hx))
    simp only [ev_eq, evs_eq, h1, h2]
  · exact lop_congr h K

/-- The part of the temporaries that some slots are. -/
def res (env : Env) (ts : List Nat) : Env := env.filter fun p => ts.contains p.1

theorem look_res {env : Env} {ts : List Nat} {t : Nat} : look (res env ts) t = if t ∈ ts then look env t else none := by
  induction env with
  | nil => simp [res, look]
  | cons p env ih =>
    obtain ⟨s, v⟩ := p
    unfold res at ih ⊢
    by_cases hs : ts.contains s
    · rw [List.filter_cons_of_pos (by simpa using hs)]
      simp only [look, ih, hif_eq, cond_eq_ite]
      split
      · rename_i hb
        have := Nat.eq_of_beq_eq_true hb
        subst this
        rw [if_pos (by simpa using hs)]
      · rfl
    · rw [List.filter_cons_of_neg (by simpa using hs)]
      simp only [look, ih, hif_eq, cond_eq_ite]
      split
      · rename_i ht
        rw [if_neg]
        intro hb
        have := Nat.eq_of_beq_eq_true hb
        subst this
        exact hs (by simpa using ht)
      · rfl

theorem evv_res {env : Env} {ts : List Nat} {x : Operand} (h : ∀ t, x = .tmp t → t ∈ ts) : evv (res env ts) x = evv env x := by
  cases x with
  | tmp t => simp only [evv, look_res, h t rfl, if_true]
  | _ => rfl

theorem operands_tmps {ops : List Oper} {o : Oper} {x : Operand} (hx : x ∈ o.op.operands) {t : Nat} (h : x = .tmp t) : t ∈ tmpsOf ops o := by
  unfold tmpsOf
  refine List.mem_append.2 (.inl ?_)
  rw [List.mem_filterMap]
  exact ⟨x, by simpa using hx, by rw [h]⟩

theorem lop_res {env : Env} {ops : List Oper} {L : LHeap} {o : Oper} (K : Value → LHeap → R) : lop P (res env (tmpsOf ops o)) L o K = lop P env L o K :=
  lop_congr (fun _ hx => evv_res fun _ ht => operands_tmps hx ht) K
theorem lstepD_res {call : Caller} {env : Env} {ops : List Oper} {L : LHeap} {o : Oper} (K : Value → LHeap → R) : lstepD P call (res env (tmpsOf ops o)) L o K = lstepD P call env L o K :=
  lstepD_congr (fun _ hx => evv_res fun _ ht => operands_tmps hx ht) K

theorem wants_res {env : Env} {ops : List Oper} {o : Oper} : wants ops (res env (tmpsOf ops o)) o = wants ops env o := by
  unfold wants
  split
  · rfl
  · rename_i j w hg
    split
    · rfl
    · rename_i d hd
      have : d ∈ tmpsOf ops o := by
        unfold tmpsOf
        refine List.mem_append.2 (.inr ?_)
        rw [hg]; simp [hd]
      rw [look_res, if_pos this]

/-! ### The trace of the text's order -/

structure Rec where
  env : Env
  L : LHeap
  v : Value
  L' : LHeap
  t : Nat

/-- It yields v in this heap, and leaves it. -/
def Val (P : Program) (o : Oper) (env : Env) (L : LHeap) (v : Value) : Prop := ∀ K2, lop P env L o K2 = K2 v L

inductive Trc (P : Program) (call : Caller) (ops : List Oper) (bef : List Nat) : Nat → List Oper → Env → LHeap → List (Nat × LHeap) → List (Nat × Read) → List Rec → Env → LHeap → Prop
  | nil {i env L past log} : Trc P call ops bef i [] env L past log [] env L
  | skip {i o rest env L past log tr e' L'} (hw : wants ops env o = some false) (h : Trc P call ops bef (i + 1) rest (put env o.dst (.tuple #[])) L past log tr e' L') :
      Trc P call ops bef i (o :: rest) env L past log (⟨env, L, .tuple #[], L, 0⟩ :: tr) e' L'
  | pure {i o rest env L past log tr e' L' v} (hw : wants ops env o = some true) (hk : kindOf P o.op = .pure) (hv : ∀ L2, Val P o env L2 v) (h : Trc P call ops bef (i + 1) rest (put env o.dst v) L past log tr e' L') :
      Trc P call ops bef i (o :: rest) env L past log (⟨env, L, v, L, 1⟩ :: tr) e' L'
  | read {i o rest env L past log tr e' L' v} (hw : wants ops env o = some true) (hk : kindOf P o.op = .read) (hv : Val P o env L v) (hp : ∀ q H, (q, H) ∈ past → tbit (bef.getD i 0) q = false → Val P o env H v)
      (h : Trc P call ops bef (i + 1) rest (put env o.dst v) L past ((i, ⟨o, env, v⟩) :: log) tr e' L') : Trc P call ops bef i (o :: rest) env L past log (⟨env, L, v, L, 2⟩ :: tr) e' L'
  | write {i o rest env L L1 past log tr e' L' v} (hw : wants ops env o = some true) (hk : kindOf P o.op = .write) (hv : ∀ K2, lstepD P call env L o K2 = K2 v L1) (hp : ∀ q H, (q, H) ∈ past → tbit (bef.getD i 0) q = true)
      (hl : ∀ q rd, (q, rd) ∈ log → tbit (bef.getD i 0) q = false → Val P rd.o rd.env L1 rd.v)
      (h : Trc P call ops bef (i + 1) rest (put env o.dst v) L1 ((i, L) :: past) log tr e' L') : Trc P call ops bef i (o :: rest) env L past log (⟨env, L, v, L1, 3⟩ :: tr) e' L'

theorem read_same {o : Oper} {env : Env} {L : LHeap} {K : Value → LHeap → R} (hk : kindOf P o.op ≠ .write) (h : lop P env L o K = some r) : ∃ v, K v L = some r ∧ Val P o env L v := by
  obtain ⟨v, L', h1, h2, h3, _⟩ := lop_ok h
  rcases h3 with ⟨rfl, _⟩ | ⟨h3, _⟩
  · exact ⟨v, h1, h2⟩
  · exact absurd h3 hk

theorem reread_ok {rd : Read} {L : LHeap} {K : R} (hk : kindOf P rd.o.op ≠ .write) (h : reread P rd L K = some r) : K = some r ∧ Val P rd.o rd.env L rd.v := by
  unfold reread at h
  obtain ⟨v, h1, h2⟩ := read_same hk h
  rw [when_iff] at h1
  have := same_eq h1.1
  subst this
  exact ⟨h1.2, h2⟩

theorem rereadIn_ok {rd : Read} {bits : Nat} {K : R} (hk : kindOf P rd.o.op ≠ .write) : ∀ {past : List (Nat × LHeap)}, rereadIn P rd bits past K = some r → K = some r ∧ ∀ q H, (q, H) ∈ past → tbit bits q = false → Val P rd.o rd.env H rd.v
  | [], h => ⟨h, by simp⟩
  | (q, H) :: ps, h => by
    simp only [rereadIn, hif_eq, cond_eq_ite] at h
    split at h
    · rename_i hb
      obtain ⟨h1, h2⟩ := rereadIn_ok hk h
      refine ⟨h1, fun q' H' hm hb' => ?_⟩
      rcases List.mem_cons.1 hm with e | hm
      · injection e with e1 e2; subst e1; rw [hb] at hb'; cases hb'
      · exact h2 q' H' hm hb'
    · obtain ⟨h0, h3⟩ := reread_ok hk h
      obtain ⟨h1, h2⟩ := rereadIn_ok hk h0
      refine ⟨h1, fun q' H' hm hb' => ?_⟩
      rcases List.mem_cons.1 hm with e | hm
      · injection e with e1 e2; subst e1; subst e2; exact h3
      · exact h2 q' H' hm hb'

theorem rereadAll_ok {bits : Nat} {L : LHeap} {K : R} : ∀ {log : List (Nat × Read)}, (∀ q rd, (q, rd) ∈ log → kindOf P rd.o.op ≠ .write) → rereadAll P bits L log K = some r →
    K = some r ∧ ∀ q rd, (q, rd) ∈ log → tbit bits q = false → Val P rd.o rd.env L rd.v
  | [], _, h => ⟨h, by simp⟩
  | (q, rd) :: ps, hk, h => by
    simp only [rereadAll, hif_eq, cond_eq_ite] at h
    split at h
    · rename_i hb
      obtain ⟨h1, h2⟩ := rereadAll_ok (fun q' rd' hm => hk q' rd' (by simp [hm])) h
      refine ⟨h1, fun q' H' hm hb' => ?_⟩
      rcases List.mem_cons.1 hm with e | hm
      · injection e with e1 e2; subst e1; rw [hb] at hb'; cases hb'
      · exact h2 q' H' hm hb'
    · obtain ⟨h0, h3⟩ := reread_ok (hk q rd (by simp)) h
      obtain ⟨h1, h2⟩ := rereadAll_ok (fun q' rd' hm => hk q' rd' (by simp [hm])) h0
      refine ⟨h1, fun q' H' hm hb' => ?_⟩
      rcases List.mem_cons.1 hm with e | hm
      · injection e with e1 e2; subst e1; subst e2; exact h3
      · exact h2 q' H' hm hb'

theorem pastOk_ok {bits : Nat} : ∀ {past : List (Nat × LHeap)}, pastOk bits past = true → ∀ q H, (q, H) ∈ past → tbit bits q = true
  | [], _, _, _, hm => by simp at hm
  | (q, H) :: ps, h, q', H', hm => by
    simp only [pastOk, Bool.and_eq_true] at h
    rcases List.mem_cons.1 hm with e | hm
    · injection e with e1 e2; subst e1; exact h.1
    · exact pastOk_ok h.2 q' H' hm

theorem lstepD_unif {call : Caller} {env : Env} {L : LHeap} {o : Oper} {K : Value → LHeap → R} (h : lstepD P call env L o K = some r) : ∃ v L1, K v L1 = some r ∧ ∀ K2, lstepD P call env L o K2 = K2 v L1 := by
  unfold lstepD at h ⊢
  split at h
  · rename_i f args ts ho
    simp only [ev_eq, evs_eq, obind_iff] at h
    obtain ⟨fv, h1, vs, h2, h⟩ := h
    cases hl : lapp call fv vs L with
    | none => rw [hl] at h; cases h
    | some r1 =>
      rw [hl] at h
      cases r1 with
      | pan v L => cases h
      | ret v L1 =>
        simp only [lbindR_ret] at h
        obtain ⟨h3, h4⟩ := typed_same (K := fun v => K v L1) h
        refine ⟨v, L1, h3, fun K2 => ?_⟩
        simp only [ev_eq, evs_eq, h1, h2, obind_some, hl, lbindR_ret]
        exact (typed_same (K := fun v => K v L1) h).2 (fun v => K2 v L1)
  · obtain ⟨v, L1, h1, h2, _⟩ := lop_ok h
    exact ⟨v, L1, h1, h2⟩

theorem ldraw_trc {call : Caller} {ops : List Oper} {bef : List Nat} {K : Env → LHeap → R} : ∀ (rest : List Oper) (i : Nat) (env : Env) (L : LHeap) (past : List (Nat × LHeap)) (log : List (Nat × Read)),
    (∀ q rd, (q, rd) ∈ log → kindOf P rd.o.op ≠ .write) → ldraw P call ops bef i rest env L past log K = some r → ∃ tr e' L', Trc P call ops bef i rest env L past log tr e' L' ∧ K e' L' = some r
  | [], i, env, L, past, log, _, h => ⟨[], env, L, .nil, h⟩
  | o :: rest, i, env, L, past, log, hlog, h => by
    unfold ldraw at h
    split at h
    · rename_i hw
      split at h
      · rename_i hk
        obtain ⟨v, L', h1, h2, h3, h4⟩ := lop_ok h
        have h4 := h4 hk
        have h5 := split_ok h1
        obtain ⟨tr, e', L2, h6, h7⟩ := ldraw_trc rest (i + 1) _ L past log hlog h5
        exact ⟨_, e', L2, .pure hw hk h4 h6, h7⟩
      · rename_i hk
        obtain ⟨v, h1, h2⟩ := read_same (by rw [hk]; intro h; cases h) h
        obtain ⟨h3, h4⟩ := rereadIn_ok (rd := ⟨o, env, v⟩) (by simp only; rw [hk]; intro h; cases h) h1
        have h5 := split_ok h3
        obtain ⟨tr, e', L2, h6, h7⟩ := ldraw_trc rest (i + 1) _ L past _ (fun q rd hm => by
          rcases List.mem_cons.1 hm with e | hm
          · injection e with e1 e2; subst e2; simp only; rw [hk]; intro h; cases h
          · exact hlog q rd hm) h5
        exact ⟨_, e', L2, .read hw hk h2 h4 h6, h7⟩
      · rename_i hk
        rw [when_iff] at h
        obtain ⟨hp, h⟩ := h
        obtain ⟨v, L1, h1, h2⟩ := lstepD_unif h
        obtain ⟨h3, h4⟩ := rereadAll_ok hlog h1
        have h5 := split_ok h3
        obtain ⟨tr, e', L2, h6, h7⟩ := ldraw_trc rest (i + 1) _ L1 _ log hlog h5
        exact ⟨_, e', L2, .write hw hk h2 (pastOk_ok hp) h4 h6, h7⟩
    · rename_i hw
      obtain ⟨tr, e', L2, h6, h7⟩ := ldraw_trc rest (i + 1) _ L past log hlog h
      exact ⟨_, e', L2, .skip hw h6, h7⟩
    · cases h

end
end Go.Rlm

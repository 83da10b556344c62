/- The logical machine, its likeness to the model, and the contracts of the functions that the law calls. Printed by pack.py, a program of this work, out of its texts; what the law does not use is left out. -/
import Derived.Test.YtflhogapjmdkaaaPressNamesM1
import Derived.OrdersIn
import Derived.RangeFuncRecord
import Derived.RangeFuncLeaves
import Derived.Below
import Derived.Deep.SlicePairs
import Derived.ChangeArms
import Derived.ChangeSlices
section
namespace Go.Rlm
section
variable {P : Program} {r : LR}
theorem evvs_congr {env env' : Env} : ∀ {xs : List Operand}, (∀ x ∈ xs, evv env x = evv env' x) → evvs env xs = evvs env' xs
  | [], _ => rfl
  | x :: xs, h => by
    simp only [evvs, h x (by simp), evvs_congr (xs := xs) fun y hy => h y (by simp [hy])]
theorem evo_congr {env env' : Env} {x : Option Operand} (h : ∀ y, x = some y → evv env y = evv env' y) (K : Option Int → R) : evo env x K = evo env' x K := by
  cases x with
  | none => rfl
  | some y => simp only [evo, ev_eq, h y rfl]
theorem evParts_congr {env env' : Env} (place : Nat → Option (Nat × Nat)) : ∀ {ps : List (Nat × Operand)} (K : List (Nat × Nat × Value) → R), (∀ p ∈ ps, evv env p.2 = evv env' p.2) → evParts env place ps K = evParts env' place ps K
  | [], _, _ => rfl
  | (i, x) :: ps, K, h => by
    simp only [evParts, ev_eq]
    rw [h (i, x) (by simp)]
    cases place i with
    | none => rfl
    | some p =>
      simp only
      congr 1
      funext v
      exact evParts_congr place _ fun q hq => h q (by simp [hq])
theorem lop_congr {env env' : Env} {L : LHeap} {o : Oper} (h : ∀ x ∈ o.op.operands, evv env x = evv env' x) (K : Value → LHeap → R) : lop P env L o K = lop P env' L o K := by
  obtain ⟨dst, op, ty, pos, after, guard⟩ := o
  simp only at h
  cases op with
  | build t ps =>
    have hp : ∀ p ∈ ps.toList, evv env p.2 = evv env' p.2 := fun p hp => h p.2 (by simp only [Op.operands, List.mem_toArray, List.mem_map]; exact ⟨p, hp, rfl⟩)
    simp only [lop]
    split
    · congr 1; congr 1; funext z; exact evParts_congr _ _ hp
    · congr 1; congr 1; funext z; exact evParts_congr _ _ hp
    · rfl
  | buildSlice t n ps =>
    have hp : ∀ p ∈ ps.toList, evv env p.2 = evv env' p.2 := fun p hp => h p.2 (by simp only [Op.operands, List.mem_toArray, List.mem_map]; exact ⟨p, hp, rfl⟩)
    simp only [lop]
    split
    · congr 1; funext z; exact evParts_congr _ _ hp
    · rfl
  | makeFunc f xs ys =>
    have h1 : evvs env xs.toList = evvs env' xs.toList := evvs_congr fun x hx => h x (by simp [Op.operands]; exact .inl (by simpa using hx))
    have h2 : evvs env ys.toList = evvs env' ys.toList := evvs_congr fun x hx => h x (by simp [Op.operands]; exact .inr (by simpa using hx))
    cases f <;> simp only [lop, evs_eq, h1, h2]
  | call c =>
    obtain ⟨callee, args, ts⟩ := c
    cases callee with
    | builtin b =>
      have h1 : evvs env args.toList = evvs env' args.toList := evvs_congr fun x hx => h x (by simp [Op.operands, Call.operands]; simpa using hx)
      simp only [lop, evs_eq, h1]
    | _ => rfl
  | slice t x lo hi mx =>
    have h0 : evv env x = evv env' x := h x (by simp [Op.operands])
    have e1 := fun K => evo_congr (env := env) (env' := env') (x := lo) (fun y hy => h y (by subst hy; simp [Op.operands])) K
    have e2 := fun K => evo_congr (env := env) (env' := env') (x := hi) (fun y hy => h y (by subst hy; simp [Op.operands])) K
    have e3 := fun K => evo_congr (env := env) (env' := env') (x := mx) (fun y hy => h y (by subst hy; simp [Op.operands])) K
    simp only [lop, ev_eq, h0, e1, e2, e3]
  | pick c x y =>
    have h0 := h c (by simp [Op.operands])
    have h1 := h x (by simp [Op.operands])
    have h2 := h y (by simp [Op.operands])
    simp only [lop, ev_eq, h0, h1, h2]
  | store t x y => simp only [lop, ev_eq, h x (by simp [Op.operands]), h y (by simp [Op.operands])]
  | binOp b t x y yt => simp only [lop, ev_eq, h x (by simp [Op.operands]), h y (by simp [Op.operands])]
  | makeSlice t x y => simp only [lop, ev_eq, h x (by simp [Op.operands]), h y (by simp [Op.operands])]
  | indexAddr t x y => simp only [lop, ev_eq, h x (by simp [Op.operands]), h y (by simp [Op.operands])]
  | index t x y => simp only [lop, ev_eq, h x (by simp [Op.operands]), h y (by simp [Op.operands])]
  | move x => simp only [lop, ev_eq, h x (by simp [Op.operands])]
  | assign x => simp only [lop, ev_eq, h x (by simp [Op.operands])]
  | box t x => simp only [lop, ev_eq, h x (by simp [Op.operands])]
  | load t x => simp only [lop, ev_eq, h x (by simp [Op.operands])]
  | nilCheck x => simp only [lop, ev_eq, h x (by simp [Op.operands])]
  | unOp u t x => simp only [lop, ev_eq, h x (by simp [Op.operands])]
  | convert s d x => simp only [lop, ev_eq, h x (by simp [Op.operands])]
  | makeInterface t x => simp only [lop, ev_eq, h x (by simp [Op.operands])]
  | fieldAddr s x j => simp only [lop, ev_eq, h x (by simp [Op.operands])]
  | field s x j => simp only [lop, ev_eq, h x (by simp [Op.operands])]
  | extract x j => simp only [lop, ev_eq, h x (by simp [Op.operands])]
  | typeAssert x s t ok => simp only [lop, ev_eq, h x (by simp [Op.operands])]
  | makeMap t x => cases x <;> rfl
  | lookup t x y ok => simp only [lop, ev_eq, h x (by simp [Op.operands]), h y (by simp [Op.operands])]
  | mapUpdate t x y z => simp only [lop, ev_eq, h x (by simp [Op.operands]), h y (by simp [Op.operands]), h z (by simp [Op.operands])]
  | mapEntry t x y => simp only [lop, ev_eq, h x (by simp [Op.operands]), h y (by simp [Op.operands])]
  | entryStore t x y z => simp only [lop, ev_eq, h x (by simp [Op.operands]), h y (by simp [Op.operands]), h z (by simp [Op.operands])]
  | _ => rfl
theorem lstepD_congr {call : Caller} {env env' : Env} {L : LHeap} {o : Oper} (h : ∀ x ∈ o.op.operands, evv env x = evv env' x) (K : Value → LHeap → R) : lstepD P call env L o K = lstepD P call env' L o K := by
  unfold lstepD
  split
  · rename_i f args ts ho
    have h1 : evv env f = evv env' f := h f (by rw [ho]; simp [Op.operands, Call.operands])
    have h2 : evvs env args.toList = evvs env' args.toList := evvs_congr fun x hx => h x (by rw [ho]; simp [Op.operands, Call.operands]; exact .inr (by simpa using hx))
    simp only [ev_eq, evs_eq, h1, h2]
  · exact lop_congr h K
/-- The part of the temporaries that some slots are. -/
def res (env : Env) (ts : List Nat) : Env := env.filter fun p => ts.contains p.1
theorem look_res {env : Env} {ts : List Nat} {t : Nat} : look (res env ts) t = if t ∈ ts then look env t else none := by
  induction env with
  | nil => simp [res, look]
  | cons p env ih =>
    obtain ⟨s, v⟩ := p
    unfold res at ih ⊢
    by_cases hs : ts.contains s
    · rw [List.filter_cons_of_pos (by simpa using hs)]
      simp only [look, ih, hif_eq, cond_eq_ite]
      split
      · rename_i hb
        have := Nat.eq_of_beq_eq_true hb
        subst this
        rw [if_pos (by simpa using hs)]
      · rfl
    · rw [List.filter_cons_of_neg (by simpa using hs)]
      simp only [look, ih, hif_eq, cond_eq_ite]
      split
      · rename_i ht
        rw [if_neg]
        intro hb
        have := Nat.eq_of_beq_eq_true hb
        subst this
        exact hs (by simpa using ht)
      · rfl
theorem evv_res {env : Env} {ts : List Nat} {x : Operand} (h : ∀ t, x = .tmp t → t ∈ ts) : evv (res env ts) x = evv env x := by
  cases x with
  | tmp t => simp only [evv, look_res, h t rfl, if_true]
  | _ => rfl
theorem operands_tmps {ops : List Oper} {o : Oper} {x : Operand} (hx : x ∈ o.op.operands) {t : Nat} (h : x = .tmp t) : t ∈ tmpsOf ops o := by
  unfold tmpsOf
  refine List.mem_append.2 (.inl ?_)
  rw [List.mem_filterMap]
  exact ⟨x, by simpa using hx, by rw [h]⟩
theorem lop_res {env : Env} {ops : List Oper} {L : LHeap} {o : Oper} (K : Value → LHeap → R) : lop P (res env (tmpsOf ops o)) L o K = lop P env L o K :=
  lop_congr (fun _ hx => evv_res fun _ ht => operands_tmps hx ht) K
theorem lstepD_res {call : Caller} {env : Env} {ops : List Oper} {L : LHeap} {o : Oper} (K : Value → LHeap → R) : lstepD P call (res env (tmpsOf ops o)) L o K = lstepD P call env L o K :=
  lstepD_congr (fun _ hx => evv_res fun _ ht => operands_tmps hx ht) K
theorem wants_res {env : Env} {ops : List Oper} {o : Oper} : wants ops (res env (tmpsOf ops o)) o = wants ops env o := by
  unfold wants
  split
  · rfl
  · rename_i j w hg
    split
    · rfl
    · rename_i d hd
      have : d ∈ tmpsOf ops o := by
        unfold tmpsOf
        refine List.mem_append.2 (.inr ?_)
        rw [hg]; simp [hd]
      rw [look_res, if_pos this]
structure Rec where
  env : Env
  L : LHeap
  v : Value
  L' : LHeap
  t : Nat
/-- It yields v in this heap, and leaves it. -/
def Val (P : Program) (o : Oper) (env : Env) (L : LHeap) (v : Value) : Prop := ∀ K2, lop P env L o K2 = K2 v L
inductive Trc (P : Program) (call : Caller) (ops : List Oper) (bef : List Nat) (tw : Bool) : Nat → List Oper → Env → LHeap → List (Nat × LHeap) → List (Nat × Read) → List Rec → Env → LHeap → Prop
  | nil {i env L past log} : Trc P call ops bef tw i [] env L past log [] env L
  | skip {i o rest env L past log tr e' L'} (hw : wants ops env o = some false) (h : Trc P call ops bef tw (i + 1) rest (put env o.dst (.tuple #[])) L past log tr e' L') :
      Trc P call ops bef tw i (o :: rest) env L past log (⟨env, L, .tuple #[], L, 0⟩ :: tr) e' L'
  | pure {i o rest env L past log tr e' L' v} (hw : wants ops env o = some true) (hk : kindOf P o.op = .pure) (hv : ∀ L2, Val P o env L2 v) (h : Trc P call ops bef tw (i + 1) rest (put env o.dst v) L past log tr e' L') :
      Trc P call ops bef tw i (o :: rest) env L past log (⟨env, L, v, L, 1⟩ :: tr) e' L'
  | read {i o rest env L past log tr e' L' v} (hw : wants ops env o = some true) (hk : kindOf P o.op = .read) (hv : Val P o env L v) (hp : ∀ q H, (q, H) ∈ past → tbit (bef.getD i 0) q = false → Val P o env H v)
      (h : Trc P call ops bef tw (i + 1) rest (put env o.dst v) L past ((i, ⟨o, env, v⟩) :: log) tr e' L') : Trc P call ops bef tw i (o :: rest) env L past log (⟨env, L, v, L, 2⟩ :: tr) e' L'
  | write {i o rest env L L1 past log tr e' L' v} (hw : wants ops env o = some true) (hk : kindOf P o.op = .write) (hv : ∀ K2, lstepD P call env L o K2 = K2 v L1) (hp : ∀ q H, (q, H) ∈ past → tbit (bef.getD i 0) q = true ∨ (tw = true ∧ i = 1))
      (hl : ∀ q rd, (q, rd) ∈ log → tbit (bef.getD i 0) q = false → Val P rd.o rd.env L1 rd.v)
      (h : Trc P call ops bef tw (i + 1) rest (put env o.dst v) L1 ((i, L) :: past) log tr e' L') : Trc P call ops bef tw i (o :: rest) env L past log (⟨env, L, v, L1, 3⟩ :: tr) e' L'
theorem read_same {o : Oper} {env : Env} {L : LHeap} {K : Value → LHeap → R} (hk : kindOf P o.op ≠ .write) (h : lop P env L o K = some r) : ∃ v, K v L = some r ∧ Val P o env L v := by
  obtain ⟨v, L', h1, h2, h3, _⟩ := lop_ok h
  rcases h3 with ⟨rfl, _⟩ | ⟨h3, _⟩
  · exact ⟨v, h1, h2⟩
  · exact absurd h3 hk
theorem reread_ok {rd : Read} {L : LHeap} {K : R} (hk : kindOf P rd.o.op ≠ .write) (h : reread P rd L K = some r) : K = some r ∧ Val P rd.o rd.env L rd.v := by
  unfold reread at h
  obtain ⟨v, h1, h2⟩ := read_same hk h
  rw [when_iff] at h1
  have := same_eq h1.1
  subst this
  exact ⟨h1.2, h2⟩
theorem rereadIn_ok {rd : Read} {bits : Nat} {K : R} (hk : kindOf P rd.o.op ≠ .write) : ∀ {past : List (Nat × LHeap)}, rereadIn P rd bits past K = some r → K = some r ∧ ∀ q H, (q, H) ∈ past → tbit bits q = false → Val P rd.o rd.env H rd.v
  | [], h => ⟨h, by simp⟩
  | (q, H) :: ps, h => by
    simp only [rereadIn, hif_eq, cond_eq_ite] at h
    split at h
    · rename_i hb
      obtain ⟨h1, h2⟩ := rereadIn_ok hk h
      refine ⟨h1, fun q' H' hm hb' => ?_⟩
      rcases List.mem_cons.1 hm with e | hm
      · injection e with e1 e2; subst e1; rw [hb] at hb'; cases hb'
      · exact h2 q' H' hm hb'
    · obtain ⟨h0, h3⟩ := reread_ok hk h
      obtain ⟨h1, h2⟩ := rereadIn_ok hk h0
      refine ⟨h1, fun q' H' hm hb' => ?_⟩
      rcases List.mem_cons.1 hm with e | hm
      · injection e with e1 e2; subst e1; subst e2; exact h3
      · exact h2 q' H' hm hb'
theorem rereadAll_ok {bits : Nat} {L : LHeap} {K : R} : ∀ {log : List (Nat × Read)}, (∀ q rd, (q, rd) ∈ log → kindOf P rd.o.op ≠ .write) → rereadAll P bits L log K = some r →
    K = some r ∧ ∀ q rd, (q, rd) ∈ log → tbit bits q = false → Val P rd.o rd.env L rd.v
  | [], _, h => ⟨h, by simp⟩
  | (q, rd) :: ps, hk, h => by
    simp only [rereadAll, hif_eq, cond_eq_ite] at h
    split at h
    · rename_i hb
      obtain ⟨h1, h2⟩ := rereadAll_ok (fun q' rd' hm => hk q' rd' (by simp [hm])) h
      refine ⟨h1, fun q' H' hm hb' => ?_⟩
      rcases List.mem_cons.1 hm with e | hm
      · injection e with e1 e2; subst e1; rw [hb] at hb'; cases hb'
      · exact h2 q' H' hm hb'
    · obtain ⟨h0, h3⟩ := reread_ok (hk q rd (by simp)) h
      obtain ⟨h1, h2⟩ := rereadAll_ok (fun q' rd' hm => hk q' rd' (by simp [hm])) h0
      refine ⟨h1, fun q' H' hm hb' => ?_⟩
      rcases List.mem_cons.1 hm with e | hm
      · injection e with e1 e2; subst e1; subst e2; exact h3
      · exact h2 q' H' hm hb'
theorem pastOk_ok {bits : Nat} : ∀ {past : List (Nat × LHeap)}, pastOk bits past = true → ∀ q H, (q, H) ∈ past → tbit bits q = true
  | [], _, _, _, hm => by simp at hm
  | (q, H) :: ps, h, q', H', hm => by
    simp only [pastOk, Bool.and_eq_true] at h
    rcases List.mem_cons.1 hm with e | hm
    · injection e with e1 e2; subst e1; exact h.1
    · exact pastOk_ok h.2 q' H' hm
theorem lstepD_unif {call : Caller} {env : Env} {L : LHeap} {o : Oper} {K : Value → LHeap → R} (h : lstepD P call env L o K = some r) : ∃ v L1, K v L1 = some r ∧ ∀ K2, lstepD P call env L o K2 = K2 v L1 := by
  unfold lstepD at h ⊢
  split at h
  · rename_i f args ts ho
    simp only [ev_eq, evs_eq, obind_iff] at h
    obtain ⟨fv, h1, vs, h2, h⟩ := h
    cases hl : lapp call fv vs L with
    | none => rw [hl] at h; cases h
    | some r1 =>
      rw [hl] at h
      cases r1 with
      | pan v L => cases h
      | ret v L1 =>
        simp only [lbindR_ret] at h
        obtain ⟨h3, h4⟩ := typed_same (K := fun v => K v L1) h
        refine ⟨v, L1, h3, fun K2 => ?_⟩
        simp only [ev_eq, evs_eq, h1, h2, obind_some, hl, lbindR_ret]
        exact (typed_same (K := fun v => K v L1) h).2 (fun v => K2 v L1)
  · obtain ⟨v, L1, h1, h2, _⟩ := lop_ok h
    exact ⟨v, L1, h1, h2⟩
theorem ldraw_trc {call : Caller} {ops : List Oper} {bef : List Nat} {tw : Bool} {K : Env → LHeap → R} : ∀ (rest : List Oper) (i : Nat) (env : Env) (L : LHeap) (past : List (Nat × LHeap)) (log : List (Nat × Read)),
    (∀ q rd, (q, rd) ∈ log → kindOf P rd.o.op ≠ .write) → ldraw P call ops bef tw i rest env L past log K = some r → ∃ tr e' L', Trc P call ops bef tw i rest env L past log tr e' L' ∧ K e' L' = some r
  | [], i, env, L, past, log, _, h => ⟨[], env, L, .nil, h⟩
  | o :: rest, i, env, L, past, log, hlog, h => by
    unfold ldraw at h
    split at h
    · rename_i hw
      split at h
      · rename_i hk
        obtain ⟨v, L', h1, h2, h3, h4⟩ := lop_ok h
        have h4 := h4 hk
        have h5 := split_ok h1
        obtain ⟨tr, e', L2, h6, h7⟩ := ldraw_trc rest (i + 1) _ L past log hlog h5
        exact ⟨_, e', L2, .pure hw hk h4 h6, h7⟩
      · rename_i hk
        obtain ⟨v, h1, h2⟩ := read_same (by rw [hk]; intro h; cases h) h
        obtain ⟨h3, h4⟩ := rereadIn_ok (rd := ⟨o, env, v⟩) (by simp only; rw [hk]; intro h; cases h) h1
        have h5 := split_ok h3
        obtain ⟨tr, e', L2, h6, h7⟩ := ldraw_trc rest (i + 1) _ L past _ (fun q rd hm => by
          rcases List.mem_cons.1 hm with e | hm
          · injection e with e1 e2; subst e2; simp only; rw [hk]; intro h; cases h
          · exact hlog q rd hm) h5
        exact ⟨_, e', L2, .read hw hk h2 h4 h6, h7⟩
      · rename_i hk
        rw [when_iff, Bool.or_eq_true, Bool.and_eq_true] at h
        obtain ⟨hp, h⟩ := h
        have hp : ∀ q H, (q, H) ∈ past → tbit (bef.getD i 0) q = true ∨ (tw = true ∧ i = 1) := fun q H hm => by
          rcases hp with hp | ⟨h1, h2⟩
          · exact .inl (pastOk_ok hp q H hm)
          · exact .inr ⟨h1, Nat.eq_of_beq_eq_true h2⟩
        obtain ⟨v, L1, h1, h2⟩ := lstepD_unif h
        obtain ⟨h3, h4⟩ := rereadAll_ok hlog h1
        have h5 := split_ok h3
        obtain ⟨tr, e', L2, h6, h7⟩ := ldraw_trc rest (i + 1) _ L1 _ log hlog h5
        exact ⟨_, e', L2, .write hw hk h2 hp h4 h6, h7⟩
    · rename_i hw
      obtain ⟨tr, e', L2, h6, h7⟩ := ldraw_trc rest (i + 1) _ L past log hlog h
      exact ⟨_, e', L2, .skip hw h6, h7⟩
    · cases h
end
end Go.Rlm
end

section
namespace Go.Rlm
section
variable {P : Program} {r : LR} {call : Caller} {ops : List Oper} {bef : List Nat} {tw : Bool}
/-- What is known of one operation of the trace by itself. -/
def Loc (P : Program) (call : Caller) (ops : List Oper) (o : Oper) (rc : Rec) : Prop :=
  (rc.t = 0 ∧ wants ops rc.env o = some false ∧ rc.v = .tuple #[] ∧ rc.L' = rc.L) ∨
  (rc.t = 1 ∧ wants ops rc.env o = some true ∧ kindOf P o.op = .pure ∧ rc.L' = rc.L ∧ ∀ L2, Val P o rc.env L2 rc.v) ∨
  (rc.t = 2 ∧ wants ops rc.env o = some true ∧ kindOf P o.op = .read ∧ rc.L' = rc.L ∧ Val P o rc.env rc.L rc.v) ∨
  (rc.t = 3 ∧ wants ops rc.env o = some true ∧ kindOf P o.op = .write ∧ ∀ K2, lstepD P call rc.env rc.L o K2 = K2 rc.v rc.L')
theorem Trc.length {i rest env L past log tr e' L'} (h : Trc P call ops bef tw i rest env L past log tr e' L') : tr.length = rest.length := by
  induction h <;> simp_all
/-- How the records hang together. -/
theorem Trc.chain {i rest env L past log tr e' L'} (h : Trc P call ops bef tw i rest env L past log tr e' L') :
    (tr = [] → e' = env ∧ L' = L) ∧ (∀ rc, tr[0]? = some rc → rc.env = env ∧ rc.L = L) ∧
    ∀ (j : Nat) (rc : Rec) (o : Oper), tr[j]? = some rc → rest[j]? = some o → Loc P call ops o rc ∧
      ((∃ rc', tr[j + 1]? = some rc' ∧ rc'.env = put rc.env o.dst rc.v ∧ rc'.L = rc.L') ∨ (tr[j + 1]? = none ∧ e' = put rc.env o.dst rc.v ∧ L' = rc.L')) := by
  have step : ∀ {o : Oper} {rest : List Oper} {rc0 : Rec} {tr : List Rec} {env' : Env} {L1 : LHeap} {e' : Env} {L' : LHeap}, env' = put rc0.env o.dst rc0.v → L1 = rc0.L' → Loc P call ops o rc0 →
      (tr = [] → e' = env' ∧ L' = L1) → (∀ rc, tr[0]? = some rc → rc.env = env' ∧ rc.L = L1) →
      (∀ (j : Nat) (rc : Rec) (o : Oper), tr[j]? = some rc → rest[j]? = some o → Loc P call ops o rc ∧
        ((∃ rc', tr[j + 1]? = some rc' ∧ rc'.env = put rc.env o.dst rc.v ∧ rc'.L = rc.L') ∨ (tr[j + 1]? = none ∧ e' = put rc.env o.dst rc.v ∧ L' = rc.L'))) →
      ∀ (j : Nat) (rc : Rec) (o' : Oper), (rc0 :: tr)[j]? = some rc → (o :: rest)[j]? = some o' → Loc P call ops o' rc ∧
        ((∃ rc', (rc0 :: tr)[j + 1]? = some rc' ∧ rc'.env = put rc.env o'.dst rc.v ∧ rc'.L = rc.L') ∨ ((rc0 :: tr)[j + 1]? = none ∧ e' = put rc.env o'.dst rc.v ∧ L' = rc.L')) := by
    intro o rest rc0 tr env' L1 e' L' h1 h2 h3 h4 h5 h6 j rc o' h7 h8
    cases j with
    | zero =>
      simp at h7 h8
      subst h7; subst h8
      refine ⟨h3, ?_⟩
      cases tr with
      | nil =>
        obtain ⟨g1, g2⟩ := h4 rfl
        exact .inr ⟨rfl, g1.trans h1, g2.trans h2⟩
      | cons x tr =>
        obtain ⟨g1, g2⟩ := h5 x rfl
        exact .inl ⟨x, rfl, g1.trans h1, g2.trans h2⟩
    | succ j =>
      simp at h7 h8
      simpa using h6 j rc o' h7 h8
  induction h with
  | nil => exact ⟨fun _ => ⟨rfl, rfl⟩, by simp, by simp⟩
  | skip hw h ih =>
    refine ⟨fun h => by simp at h, fun rc h => ?_, step rfl rfl (.inl ⟨rfl, hw, rfl, rfl⟩) ih.1 ih.2.1 ih.2.2⟩
    simp at h; subst h; exact ⟨rfl, rfl⟩
  | pure hw hk hv h ih =>
    refine ⟨fun h => by simp at h, fun rc h => ?_, step rfl rfl (.inr (.inl ⟨rfl, hw, hk, rfl, hv⟩)) ih.1 ih.2.1 ih.2.2⟩
    simp at h; subst h; exact ⟨rfl, rfl⟩
  | read hw hk hv hp h ih =>
    refine ⟨fun h => by simp at h, fun rc h => ?_, step rfl rfl (.inr (.inr (.inl ⟨rfl, hw, hk, rfl, hv⟩))) ih.1 ih.2.1 ih.2.2⟩
    simp at h; subst h; exact ⟨rfl, rfl⟩
  | write hw hk hv hp hl h ih =>
    refine ⟨fun h => by simp at h, fun rc h => ?_, step rfl rfl (.inr (.inr (.inr ⟨rfl, hw, hk, hv⟩))) ih.1 ih.2.1 ih.2.2⟩
    simp at h; subst h; exact ⟨rfl, rfl⟩
/-- Reads and writes with what lies ahead of the trace. -/
theorem Trc.ahead {i rest env L past log tr e' L'} (h : Trc P call ops bef tw i rest env L past log tr e' L') : ∀ (j : Nat) (rc : Rec) (o : Oper), tr[j]? = some rc → rest[j]? = some o →
    (rc.t = 3 → (∀ q H, (q, H) ∈ past → tbit (bef.getD (i + j) 0) q = true ∨ (tw = true ∧ i + j = 1)) ∧ (∀ q rd, (q, rd) ∈ log → tbit (bef.getD (i + j) 0) q = false → Val P rd.o rd.env rc.L' rd.v)) ∧
    (rc.t = 2 → ∀ q H, (q, H) ∈ past → tbit (bef.getD (i + j) 0) q = false → Val P o rc.env H rc.v) := by
  induction h with
  | nil => intro j rc o h; simp at h
  | skip hw h ih =>
    intro j rc o h1 h2
    cases j with
    | zero => simp at h1; subst h1; exact ⟨fun e => by simp at e, fun e => by simp at e⟩
    | succ j =>
      simp at h1 h2
      have := ih j rc o h1 h2
      simpa [Nat.add_assoc, Nat.add_comm 1 j] using this
  | pure hw hk hv h ih =>
    intro j rc o h1 h2
    cases j with
    | zero => simp at h1; subst h1; exact ⟨fun e => by simp at e, fun e => by simp at e⟩
    | succ j =>
      simp at h1 h2
      have := ih j rc o h1 h2
      simpa [Nat.add_assoc, Nat.add_comm 1 j] using this
  | read hw hk hv hp h ih =>
    intro j rc o h1 h2
    cases j with
    | zero => simp at h1 h2; subst h1; subst h2; exact ⟨fun e => by simp at e, fun _ => hp⟩
    | succ j =>
      simp at h1 h2
      obtain ⟨g1, g2⟩ := ih j rc o h1 h2
      rw [show ∀ i, i + 1 + j = i + (j + 1) from fun i => by omega] at g1 g2
      exact ⟨fun e => ⟨(g1 e).1, fun q rd hm => (g1 e).2 q rd (List.mem_cons_of_mem _ hm)⟩, g2⟩
  | write hw hk hv hp hl h ih =>
    intro j rc o h1 h2
    cases j with
    | zero => simp at h1 h2; subst h1; subst h2; exact ⟨fun _ => ⟨hp, hl⟩, fun e => by simp at e⟩
    | succ j =>
      simp at h1 h2
      obtain ⟨g1, g2⟩ := ih j rc o h1 h2
      rw [show ∀ i, i + 1 + j = i + (j + 1) from fun i => by omega] at g1 g2
      exact ⟨fun e => ⟨fun q H hm => (g1 e).1 q H (List.mem_cons_of_mem _ hm), (g1 e).2⟩, fun e q H hm => g2 e q H (List.mem_cons_of_mem _ hm)⟩
/-- Reads and writes with one another. -/
theorem Trc.pairs {i rest env L past log tr e' L'} (h : Trc P call ops bef tw i rest env L past log tr e' L') : ∀ (j k : Nat) (rc rk : Rec) (o ok : Oper), j < k → tr[j]? = some rc → tr[k]? = some rk → rest[j]? = some o → rest[k]? = some ok →
    (rc.t = 3 → rk.t = 3 → tbit (bef.getD (i + k) 0) (i + j) = true ∨ (tw = true ∧ i + k = 1)) ∧
    (rc.t = 3 → rk.t = 2 → tbit (bef.getD (i + k) 0) (i + j) = false → Val P ok rk.env rc.L rk.v) ∧
    (rc.t = 2 → rk.t = 3 → tbit (bef.getD (i + k) 0) (i + j) = false → Val P o rc.env rk.L' rc.v) := by
  induction h with
  | nil => intro j k rc rk o ok hj h; simp at h
  | skip hw h ih =>
    intro j k rc rk o ok hj h1 h2 h3 h4
    cases k with
    | zero => omega
    | succ k =>
      cases j with
      | zero => simp at h1; subst h1; exact ⟨fun e => by simp at e, fun e => by simp at e, fun e => by simp at e⟩
      | succ j =>
        simp at h1 h2 h3 h4
        have := ih j k rc rk o ok (by omega) h1 h2 h3 h4
        simpa [Nat.add_assoc, Nat.add_comm 1] using this
  | pure hw hk hv h ih =>
    intro j k rc rk o ok hj h1 h2 h3 h4
    cases k with
    | zero => omega
    | succ k =>
      cases j with
      | zero => simp at h1; subst h1; exact ⟨fun e => by simp at e, fun e => by simp at e, fun e => by simp at e⟩
      | succ j =>
        simp at h1 h2 h3 h4
        have := ih j k rc rk o ok (by omega) h1 h2 h3 h4
        simpa [Nat.add_assoc, Nat.add_comm 1] using this
  | @read i o rest env L past log tr e' L' v hw hk hv hp h ih =>
    intro j k rc rk o2 ok hj h1 h2 h3 h4
    cases k with
    | zero => omega
    | succ k =>
      cases j with
      | zero =>
        simp at h1 h2 h3 h4
        subst h1; subst h3
        obtain ⟨g1, _⟩ := h.ahead k rk ok h2 h4
        rw [show i + 1 + k = i + (k + 1) by omega] at g1
        exact ⟨fun e => by simp at e, fun e => by simp at e, fun _ e hb => (g1 e).2 i ⟨o, env, v⟩ (by simp) (by simpa using hb)⟩
      | succ j =>
        simp at h1 h2 h3 h4
        have := ih j k rc rk o2 ok (by omega) h1 h2 h3 h4
        simpa [Nat.add_assoc, Nat.add_comm 1] using this
  | @write i o rest env L L1 past log tr e' L' v hw hk hv hp hl h ih =>
    intro j k rc rk o2 ok hj h1 h2 h3 h4
    cases k with
    | zero => omega
    | succ k =>
      cases j with
      | zero =>
        simp at h1 h2 h3 h4
        subst h1; subst h3
        obtain ⟨g1, g2⟩ := h.ahead k rk ok h2 h4
        rw [show i + 1 + k = i + (k + 1) by omega] at g1 g2
        exact ⟨fun _ e => by simpa using (g1 e).1 i L (by simp), fun _ e hb => g2 e i L (by simp) (by simpa using hb), fun e => by simp at e⟩
      | succ j =>
        simp at h1 h2 h3 h4
        have := ih j k rc rk o2 ok (by omega) h1 h2 h3 h4
        simpa [Nat.add_assoc, Nat.add_comm 1] using this
theorem tbit_eq (x n : Nat) : tbit x n = x.testBit n := by
  rw [Nat.testBit_eq_decide_div_mod_eq]
  unfold tbit
  by_cases h : x / 2 ^ n % 2 = 1
  · rw [h]; rfl
  · rw [decide_eq_false h]
    cases hb : (x / 2 ^ n % 2).beq 1 with
    | false => rfl
    | true => exact absurd (Nat.eq_of_beq_eq_true hb) h
theorem tbit_or (a b n : Nat) : tbit (a ||| b) n = (tbit a n || tbit b n) := by rw [tbit_eq, tbit_eq, tbit_eq, Nat.testBit_or]
theorem tbit_pow (a n : Nat) : tbit (2 ^ a) n = decide (a = n) := by rw [tbit_eq, Nat.testBit_two_pow]
theorem tbit_zero (n : Nat) : tbit 0 n = false := by rw [tbit_eq, Nat.zero_testBit]
theorem befores_get : ∀ (l : List Oper) (acc : List Nat) (j : Nat) (o : Oper), l[j]? = some o → ∀ i, tbit ((befores l acc).getD (acc.length + j) 0) i = true →
    ∃ e ∈ o.after.toList, Region.binds .any e = true ∧ (e.on = i ∨ (e.on < acc.length + j ∧ tbit ((befores l acc).getD e.on 0) i = true))
  | [], _, _, _, h => by simp at h
  | x :: l, acc, j, o, h => by
    intro i hi
    have keepAcc : ∀ (l : List Oper) (acc : List Nat) (q : Nat), q < acc.length → (befores l acc).getD q 0 = acc.getD q 0 := by
      intro l
      induction l with
      | nil => intro acc q _; rfl
      | cons x l ih =>
        intro acc q hq
        simp only [befores]
        rw [ih _ q (by simp; omega)]
        simp [List.getD, List.getElem?_append_left hq]
    cases j with
    | zero =>
      simp at h
      subst h
      simp only [befores, Nat.add_zero] at hi ⊢
      rw [keepAcc _ _ acc.length (by simp)] at hi
      have e0 : (acc ++ [x.after.toList.foldl (fun s e => bif Region.binds .any e then s ||| 2 ^ e.on ||| acc.getD e.on 0 else s) 0]).getD acc.length 0 = x.after.toList.foldl (fun s e => bif Region.binds .any e then s ||| 2 ^ e.on ||| acc.getD e.on 0 else s) 0 := by simp [List.getD]
      rw [e0] at hi
      have fold : ∀ (es : List Edge) (s : Nat), tbit (es.foldl (fun s e => bif Region.binds .any e then s ||| 2 ^ e.on ||| acc.getD e.on 0 else s) s) i = true → tbit s i = true ∨ ∃ e ∈ es, Region.binds .any e = true ∧ (e.on = i ∨ tbit (acc.getD e.on 0) i = true) := by
        intro es
        induction es with
        | nil => intro s h; exact .inl h
        | cons e es ih =>
          intro s h
          rw [List.foldl_cons] at h
          rcases ih _ h with h1 | ⟨e', h1, h2⟩
          · cases hb : Region.binds .any e with
            | false => rw [hb] at h1; exact .inl h1
            | true =>
              rw [hb] at h1
              simp only [hif_true, cond_true, tbit_or, tbit_pow, Bool.or_eq_true, decide_eq_true_eq] at h1
              rcases h1 with (h1 | h1) | h1
              · exact .inl h1
              · exact .inr ⟨e, by simp, hb, .inl h1⟩
              · exact .inr ⟨e, by simp, hb, .inr h1⟩
          · exact .inr ⟨e', by simp [h1], h2⟩
      rcases fold _ 0 hi with h1 | ⟨e, h1, h2, h3⟩
      · rw [tbit_zero] at h1; cases h1
      · refine ⟨e, h1, h2, ?_⟩
        rcases h3 with h3 | h3
        · exact .inl h3
        · have hlt : e.on < acc.length := by
            rcases Nat.lt_or_ge e.on acc.length with h | h
            · exact h
            · simp [List.getD, List.getElem?_eq_none h, tbit_zero] at h3
          refine .inr ⟨hlt, ?_⟩
          rw [keepAcc _ _ e.on (by simp; omega)]
          simpa [List.getD, List.getElem?_append_left hlt] using h3
    | succ j =>
      simp only [List.getElem?_cons_succ] at h
      simp only [befores] at hi ⊢
      have e1 : ∀ c : Nat, (acc ++ [c]).length + j = acc.length + (j + 1) := fun c => by simp; omega
      have := befores_get l _ j o h i (by rw [e1]; exact hi)
      obtain ⟨e, h1, h2, h3⟩ := this
      refine ⟨e, h1, h2, ?_⟩
      rcases h3 with h3 | ⟨h3, h4⟩
      · exact .inl h3
      · exact .inr ⟨by rw [e1] at h3; exact h3, h4⟩
theorem bef_get {j : Nat} {o : Oper} (h : ops[j]? = some o) {i : Nat} (hi : tbit ((befores ops []).getD j 0) i = true) :
    ∃ e ∈ o.after.toList, Region.binds .any e = true ∧ (e.on = i ∨ tbit ((befores ops []).getD e.on 0) i = true) := by
  obtain ⟨e, h1, h2, h3⟩ := befores_get ops [] j o h i (by simpa using hi)
  refine ⟨e, h1, h2, ?_⟩
  rcases h3 with h3 | ⟨_, h3⟩
  · exact .inl h3
  · exact .inr h3
end
end Go.Rlm
end

section
namespace Go.Rlm
section
variable {P : Program} {r : LR} {call : Caller} {ops : Array Oper}
/-- A step that may not panic. -/
theorem lstepD_ok {ro : Option Nat} {n : Nat} (hc : CallOk P call) {env : Env} {L L1 : LHeap} {o : Oper} {v : Value} (h : ∀ K2, lstepD P call env L o K2 = K2 v L1) {m : RMap} {w : World} {a : Act} (hr : Rep P m L w) (he : ER m env a.tmps)
    {next : Act → World → Prop} {Q : Exit → Act → World → Prop} (go : ∀ m' w' v', VR m' v v' → Rep P m' L1 w' → Tr m L w m' L1 w' → next (a.put o.dst v') w') : o.wpIn (fence ro) n P a w next Q := by
  refine ⟨fun _ _ => trivial, ?_⟩
  have h0 := h fun v L => some (.ret v L)
  unfold lstepD at h0
  split at h0
  · rename_i f args ts ho
    simp only [ev_eq, evs_eq, obind_iff] at h0
    obtain ⟨fv, h1, vs, h2, h0⟩ := h0
    have hf := he.eval h1
    have hvs := he.evals h2
    rw [Oper.semAt_eq _ _ _ (fun c e => by rw [ho] at e; cases e)]
    unfold lapp at h0
    split at h0
    case h_3 => cases h0
    case h_2 =>
      rename_i j az bs
      obtain ⟨i, hi, hfv⟩ := hf.of_yield
      cases hcall : call (YB + j) vs L with
      | none => rw [hcall] at h0; cases h0
      | some r1 =>
        rw [hcall] at h0
        obtain ⟨fn, tmps, assign, body, g1, g2⟩ := hc.rounds j vs L r1 hcall m w _ i hr hvs hi
        have hrun : (execOp a.eval o).run P w = .ok (.round i.blk fn tmps assign body) w := by
          have e : (args.map a.eval) = ⟨args.toList.map a.eval⟩ := by apply Array.ext'; simp
          simp only [execOp, ho, resolve, hfv, Deferred.ofValue, Sem.run_bind, Sem.run_pure, Result.andThen_ok, invoke, e]
          simpa using g1
        rw [hrun]
        refine ⟨(fun h => by cases h), (g2 ro _).mono fun e w' hE => ?_⟩
        cases r1 with
        | ret u L2 =>
          obtain ⟨m', v', rfl, h4, h5, h6⟩ := hE
          simp only [lbindR_ret] at h0
          have h7 := (typed_same (K := fun v => some (.ret v L2)) h0).1
          injection h7 with h7; injection h7 with h7 h8
          subst h7; subst h8
          exact go m' w' v' h4 h5 h6
        | pan u L2 => cases h0
    rename_i g az bs
    cases hgb : Nat.blt g YB with
    | false => rw [hgb] at h0; cases h0
    | true =>
    rw [hgb, hif_true] at h0
    have hgy : g < YB := by simpa using hgb
    obtain ⟨as', bs', hfv, has, hbs⟩ := hf.of_func
    have hargs : VRs m (az.toList ++ vs ++ bs.toList) (as'.toList ++ args.toList.map a.eval ++ bs'.toList) := (has.append hvs).append hbs
    cases hcall : call g (az.toList ++ vs ++ bs.toList) L with
    | none => rw [hcall] at h0; cases h0
    | some r1 =>
      rw [hcall] at h0
      have hrun : (execOp a.eval o).run P w = .ok (.enter g ⟨as'.toList ++ args.toList.map a.eval ++ bs'.toList⟩) w := by
        have e : (as' ++ args.map a.eval ++ bs') = ⟨as'.toList ++ args.toList.map a.eval ++ bs'.toList⟩ := by apply Array.ext'; simp
        simp only [execOp, ho, resolve, hfv, Deferred.ofValue, Sem.run_bind, Sem.run_pure, Result.andThen_ok, invoke, e]
        exact hc.enters g _ L r1 hgy hcall _ w
      rw [hrun]
      refine ⟨(fun h => by cases h), (callsW (hc.calls g _ L r1 hgy hcall m w _ hr hargs)).mono fun e w' hE => ?_⟩
      cases r1 with
      | ret u L2 =>
        obtain ⟨m', v', rfl, h4, h5, h6⟩ := hE
        simp only [lbindR_ret] at h0
        have h7 := (typed_same (K := fun v => some (.ret v L2)) h0).1
        injection h7 with h7; injection h7 with h7 h8
        subst h7; subst h8
        exact go m' w' v' h4 h5 h6
      | pan u L2 => cases h0
  · rw [Oper.semAt_eq _ _ _ (lop_no_defer h0)]
    obtain ⟨u, L2, h1, _, h3, _⟩ := lop_ok h0
    injection h1 with h1; injection h1 with h1 h2
    subst h1; subst h2
    have hd : Does P env L o u L2 := by
      rcases h3 with ⟨rfl, h3⟩ | ⟨_, h3⟩
      · exact h3.does
      · exact h3
    obtain ⟨m', w', v', h4, h5, h6, h7⟩ := hd m w a hr he
    rcases h4 with h4 | ⟨h4, rfl⟩
    · rw [h4]; exact go m' w' v' h5 h6 h7
    · rw [h4]; exact go m' w' _ h5 h6 h7
theorem Val.quiet {o : Oper} {env : Env} {L : LHeap} {v : Value} (h : Val P o env L v) (hk : kindOf P o.op ≠ .write) : Quiet P env L o v := by
  have h0 := h fun v L => some (.ret v L)
  obtain ⟨u, L2, h1, _, h3, _⟩ := lop_ok h0
  injection h1 with h1; injection h1 with h1 h2
  subst h1; subst h2
  rcases h3 with ⟨_, h3⟩ | ⟨h3, _⟩
  · exact h3
  · exact absurd h3 hk
structure Setting (P : Program) (call : Caller) (ops : Array Oper) (tr : List Rec) (env0 : Env) (L0 : LHeap) (e' : Env) (L' : LHeap) : Prop where
  trc : Trc P call ops.toList (befores ops.toList []) (twoMakes ops.toList (befores ops.toList [])) 0 ops.toList env0 L0 [] [] tr e' L'
  ord : ordered ops.toList (befores ops.toList []) = true
def envAt (tr : List Rec) (e' : Env) (j : Nat) : Env := match tr[j]? with | some rc => rc.env | none => e'
def heapAt (tr : List Rec) (L' : LHeap) (j : Nat) : LHeap := match tr[j]? with | some rc => rc.L | none => L'
abbrev bef (ops : Array Oper) (j i : Nat) : Bool := tbit ((befores ops.toList []).getD j 0) i
section
variable {tr : List Rec} {env0 e' : Env} {L0 L' : LHeap}
theorem Setting.len (h : Setting P call ops tr env0 L0 e' L') : tr.length = ops.size := by simpa using h.trc.length
theorem Setting.recd (h : Setting P call ops tr env0 L0 e' L') {j : Nat} {o : Oper} (ho : ops[j]? = some o) : ∃ rc, tr[j]? = some rc ∧ Loc P call ops.toList o rc ∧ envAt tr e' j = rc.env ∧ heapAt tr L' j = rc.L ∧
    envAt tr e' (j + 1) = put rc.env o.dst rc.v ∧ heapAt tr L' (j + 1) = rc.L' := by
  have hj := (Array.getElem?_eq_some_iff.1 ho).1
  have hlen := h.len
  obtain ⟨rc, hrc⟩ : ∃ rc, tr[j]? = some rc := ⟨tr[j], by simp⟩
  obtain ⟨h1, h2⟩ := h.trc.chain.2.2 j rc o hrc (by simpa using ho)
  refine ⟨rc, hrc, h1, by simp [envAt, hrc], by simp [heapAt, hrc], ?_⟩
  rcases h2 with ⟨rc', h3, h4, h5⟩ | ⟨h3, h4, h5⟩
  · simp [envAt, heapAt, h3, h4, h5]
  · simp [envAt, heapAt, h3, h4, h5]
theorem Setting.start (h : Setting P call ops tr env0 L0 e' L') : envAt tr e' 0 = env0 ∧ heapAt tr L' 0 = L0 := by
  cases htr : tr with
  | nil =>
    obtain ⟨h1, h2⟩ := h.trc.chain.1 htr
    simp [envAt, heapAt, h1, h2]
  | cons rc l =>
    obtain ⟨h1, h2⟩ := h.trc.chain.2.1 rc (by rw [htr]; rfl)
    simp [envAt, heapAt, h1, h2]
theorem Setting.final (h : Setting P call ops tr env0 L0 e' L') : envAt tr e' ops.size = e' ∧ heapAt tr L' ops.size = L' := by
  have : tr[ops.size]? = none := by rw [List.getElem?_eq_none]; rw [h.len]; exact Nat.le_refl _
  simp [envAt, heapAt, this]
/-- The heap does not turn where nothing is written. -/
theorem Setting.heap_same (h : Setting P call ops tr env0 L0 e' L') : ∀ (d p : Nat), p + d ≤ ops.size → (∀ q rc, p ≤ q → q < p + d → tr[q]? = some rc → rc.t ≠ 3) → heapAt tr L' (p + d) = heapAt tr L' p
  | 0, p, _, _ => rfl
  | d + 1, p, hle, hn => by
    have ih := h.heap_same d p (by omega) fun q rc h1 h2 => hn q rc h1 (by omega)
    have ho : ops[p + d]? = some ops[p + d] := by simp
    obtain ⟨rc, h1, h2, _, h4, _, h6⟩ := h.recd ho
    rw [show p + (d + 1) = p + d + 1 by omega, h6, ← ih, h4]
    have := hn (p + d) rc (by omega) (by omega) h1
    rcases h2 with h2 | h2 | h2 | h2
    · exact h2.2.2.2
    · exact h2.2.2.2.1
    · exact h2.2.2.2.1
    · exact absurd h2.1 this
/-- What a slot holds ahead of an operation: what was written last. -/
theorem Setting.env_look (h : Setting P call ops tr env0 L0 e' L') (t : Nat) : ∀ j, j ≤ ops.size →
    ((∃ (i : Nat) (o : Oper) (rc : Rec), i < j ∧ ops[i]? = some o ∧ tr[i]? = some rc ∧ o.dst = some t ∧ (∀ (k : Nat) (o' : Oper), i < k → k < j → ops[k]? = some o' → o'.dst ≠ some t) ∧ look (envAt tr e' j) t = some rc.v) ∨
     ((∀ (k : Nat) (o' : Oper), k < j → ops[k]? = some o' → o'.dst ≠ some t) ∧ look (envAt tr e' j) t = look env0 t))
  | 0, _ => .inr ⟨fun k _ hk => by omega, by rw [h.start.1]⟩
  | j + 1, hj => by
    have ho : ops[j]? = some ops[j] := by simp
    obtain ⟨rc, h1, _, h3, _, h5, _⟩ := h.recd ho
    by_cases hd : ops[j].dst = some t
    · refine .inl ⟨j, ops[j], rc, by omega, ho, h1, hd, fun k _ h6 h7 => by omega, ?_⟩
      rw [h5, hd]
      simp [put, look]
    · have hl : look (envAt tr e' (j + 1)) t = look (envAt tr e' j) t := by
        rw [h5, h3]
        cases hdd : ops[j].dst with
        | none => rfl
        | some d =>
          have : d.beq t = false := by
            cases hb : d.beq t with
            | false => rfl
            | true => exact absurd (by rw [hdd, Nat.eq_of_beq_eq_true hb]) hd
          simp [put, look, this]
      rcases h.env_look t j (by omega) with ⟨i, o, rci, g1, g2, g3, g4, g5, g6⟩ | ⟨g1, g2⟩
      · refine .inl ⟨i, o, rci, by omega, g2, g3, g4, fun k o' h6 h7 h8 => ?_, by rw [hl]; exact g6⟩
        rcases Nat.lt_or_ge k j with hk | hk
        · exact g5 k o' h6 hk h8
        · have : k = j := by omega
          subst this
          rw [ho] at h8; injection h8 with h8; subst h8
          exact hd
      · refine .inr ⟨fun k o' h6 h8 => ?_, by rw [hl]; exact g2⟩
        rcases Nat.lt_or_ge k j with hk | hk
        · exact g1 k o' hk h8
        · have : k = j := by omega
          subst this
          rw [ho] at h8; injection h8 with h8; subst h8
          exact hd
/-- Two operations that name one temporary that one of them writes are in order. -/
theorem Setting.order (h : Setting P call ops tr env0 L0 e' L') {i j : Nat} {x y : Oper} (hx : ops[i]? = some x) (hy : ops[j]? = some y) (hne : i ≠ j) {d : Nat} (hd : x.dst = some d)
    (hn : d ∈ tmpsOf ops.toList y ∨ y.dst = some d) : bef ops (max i j) (min i j) = true := by
  have hi := (Array.getElem?_eq_some_iff.1 hx).1
  have hj := (Array.getElem?_eq_some_iff.1 hy).1
  have h0 := h.ord
  unfold ordered at h0
  rw [Bool.and_eq_true] at h0
  have h1 := List.all_eq_true.1 h0.2 j (by simpa using hj)
  have h2 := List.all_eq_true.1 h1 i (by simpa using hi)
  have hb : Nat.beq i j = false := by
    cases hb : Nat.beq i j with
    | false => rfl
    | true => exact absurd (Nat.eq_of_beq_eq_true hb) hne
  have hx' : ops.toList[i]? = some x := by simpa using hx
  have hy' : ops.toList[j]? = some y := by simpa using hy
  simp only [hb, hif_false, cond_false, hx', hy', hd] at h2
  cases hyd : y.dst with
  | none =>
    rw [hyd] at h2 hn
    have h3 : (tmpsOf ops.toList y).any (Nat.beq d) = true := by
      rcases hn with hn | hn
      · exact List.any_eq_true.2 ⟨d, hn, Nat.beq_refl d⟩
      · cases hn
    simp only [h3, Bool.true_or, hif_true, cond_true] at h2
    exact h2
  | some d' =>
    rw [hyd] at h2 hn
    have h3 : ((tmpsOf ops.toList y).any (Nat.beq d) || Nat.beq d d') = true := by
      rw [Bool.or_eq_true]
      rcases hn with hn | hn
      · exact .inl (List.any_eq_true.2 ⟨d, hn, Nat.beq_refl d⟩)
      · injection hn with hn; subst hn; exact .inr (Nat.beq_refl d')
    simp only [h3, hif_true, cond_true] at h2
    exact h2
theorem Setting.back (h : Setting P call ops tr env0 L0 e' L') {j : Nat} {o : Oper} (ho : ops[j]? = some o) {e : Edge} (he : e ∈ o.after) (hb : Region.binds .any e = true) : e.on < j := by
  have hj := (Array.getElem?_eq_some_iff.1 ho).1
  have h0 := h.ord
  unfold ordered at h0
  rw [Bool.and_eq_true] at h0
  have h1 := List.all_eq_true.1 h0.1 j (by simpa using hj)
  have ho' : ops.toList[j]? = some o := by simpa using ho
  simp only [ho'] at h1
  have h2 := List.all_eq_true.1 h1 e (by simpa using he)
  rw [hb] at h2
  simpa using h2
/-- How far an order has come. -/
structure Inv (P : Program) (ops : Array Oper) (tr : List Rec) (env0 : Env) (L0 : LHeap) (L' : LHeap) (m0 : RMap) (w0 : World) (ds : List Deferred) (N : Nat) (listed : Array Bool) (a : Act) (w : World) : Prop where
  sz : listed.size = ops.size
  down : ∀ j i, listed[j]? = some true → bef ops j i = true → listed[i]? = some true
  state : ∃ m p, p ≤ ops.size ∧ (∀ (q : Nat) (rc : Rec), q < p → tr[q]? = some rc → rc.t = 3 → listed[q]? = some true) ∧ (∀ (q : Nat) (rc : Rec), p ≤ q → tr[q]? = some rc → rc.t = 3 → listed[q]? = some false) ∧
    Rep P m (heapAt tr L' p) w ∧ Tr m0 L0 w0 m (heapAt tr L' p) w ∧
    (∀ (t i : Nat) (rc : Rec) (o : Oper), tr[i]? = some rc → ops[i]? = some o → listed[i]? = some true → o.dst = some t → (∀ (k : Nat) (o' : Oper), i < k → ops[k]? = some o' → listed[k]? = some true → o'.dst ≠ some t) → ∃ v', a.tmps[t]? = some v' ∧ VR m rc.v v') ∧
    (∀ t : Nat, (∀ (k : Nat) (o' : Oper), ops[k]? = some o' → listed[k]? = some true → o'.dst ≠ some t) → ∀ v, look env0 t = some v → ∃ v', a.tmps[t]? = some v' ∧ VR m v v')
  defers : a.defers = ds
  size : a.tmps.size = N
theorem listed_set {listed : Array Bool} {j k : Nat} (hj : j < listed.size) : (listed.setIfInBounds j true)[k]? = some true ↔ (k = j ∨ listed[k]? = some true) := by
  rw [Array.getElem?_setIfInBounds]
  by_cases h : j = k
  · subst h; simp [hj]
  · rw [if_neg h]
    exact ⟨.inr, fun h' => h'.resolve_left fun e => h e.symm⟩
theorem listed_set_false {listed : Array Bool} {j k : Nat} (hj : j < listed.size) : (listed.setIfInBounds j true)[k]? = some false ↔ (k ≠ j ∧ listed[k]? = some false) := by
  rw [Array.getElem?_setIfInBounds]
  by_cases h : j = k
  · subst h; simp [hj]
  · rw [if_neg h]
    exact ⟨fun h' => ⟨fun e => h e.symm, h'⟩, fun h' => h'.2⟩
theorem listed_cases {listed : Array Bool} {k : Nat} (hk : k < listed.size) : listed[k]? = some true ∨ listed[k]? = some false := by
  rw [Array.getElem?_eq_getElem hk]
  cases listed[k] <;> simp
end
end
end Go.Rlm
end

section
namespace Go.Rlm
section
variable {P : Program} {o : Oper} {L L1 : LHeap} {v : Value} {env : Env}
theorem make_facts {t : TypeId} {x y : Operand} (ho : o.op = .makeSlice t x y) (h : ∀ K2 : Value → LHeap → R, lop P env L o K2 = K2 v L1) :
    ∃ (cs : List Value) (cc : Array Value) (e : TypeId) (n c : Nat), v = .slice (some ⟨L.length, 0, none⟩) n c ∧ L1 = L ++ [.cells cs e false 0] ∧ c < OPEN ∧ (∀ m, VRs m cs cc.toList) ∧ (∀ u ∈ cs, one u = true) ∧
      ∀ (m : RMap) (w : World) (a : Act), ER m env a.tmps → (execOp a.eval o).run P w = .ok (.value (.slice (some ⟨w.heap.size, 0, none⟩) n c)) { w with heap := w.heap.push (.cells cc e) } := by
  have h := h fun v L => some (.ret v L)
  obtain ⟨dst, op, ty, pos, after, guard⟩ := o
  simp only at ho
  subst ho
  simp only [lop, ev_eq, obind_iff] at h
  obtain ⟨v', h1, u, h2, h3⟩ := h
  split at h3
  case h_2 => cases h3
  rename_i e kn n kc c hu
  split at h3
  case h_2 => cases h3
  rename_i i hi
  rw [obind_iff] at h3
  obtain ⟨z, hz, h3⟩ := h3
  simp only [when_iff] at h3
  obtain ⟨g1, g2, gr, h3⟩ := h3
  injection h3 with h3; injection h3 with h3 h4
  obtain ⟨zv, i', hi', hz1, hz2⟩ := zeroOf_zero hz
  rw [hi] at hi'; injection hi' with hi'; subst hi'
  obtain ⟨_, _, _, hfl, hon⟩ := zeroOf_ok hz
  have e1 := Nat.eq_of_beq_eq_true g1
  obtain ⟨g3, g4, g5, g6⟩ := room_iff.1 gr
  have g2 : 0 < z.length := by simpa using g2
  have hcells : madeCells zv.cells (c.toNat * i.size) = ⟨(List.replicate c.toNat z).flatten⟩ := by
    rw [← e1]; exact zero_mod hz2 g2 c.toNat
  have hmem : ∀ v ∈ (List.replicate c.toNat z).flatten, v ∈ z := fun v hv => by
    obtain ⟨l, hl, hv⟩ := List.mem_flatten.1 hv
    rwa [List.eq_of_mem_replicate hl] at hv
  refine ⟨(List.replicate c.toNat z).flatten, madeCells zv.cells (c.toNat * i.size), e, n.toNat, c.toNat, h3.symm, h4.symm, by unfold OPEN; omega, fun m => by rw [hcells]; exact VRs.flat fun v hv => hfl v (hmem v hv), fun v hv => hon v (hmem v hv), fun m w a he => ?_⟩
  have hrun := run_make (P := P) w t e i zv hu hi hz1 kn kc n c g3 g4 (by rw [Int.mul_comm]; omega) (by omega)
  have hb := VR.of_int (he.eval h1)
  have hc := VR.of_int (he.eval h2)
  simp only [execOp, hb, hc, Sem.run_bind, hrun, Result.andThen_ok, Sem.run_pure]
  rfl
end
section
variable {P : Program} {m : RMap} {L : LHeap} {w w' : World}
theorem Rep.grow (h : Rep P m L w) (hw : ∀ b, b < w.heap.size → w'.heap[b]? = w.heap[b]?) : Rep P m L w' := by
  refine ⟨h.fresh, fun r cs e ro sp hr => ?_, h.sep, h.loops.keep (.refl m) (fun _ _ _ h => h) fun b lp _ hb => by rw [hw b (Array.getElem?_eq_some_iff.1 hb).1]; exact hb⟩
  obtain ⟨i, h1, h2⟩ := h.row r cs e ro sp hr
  refine ⟨i, h1, ⟨?_, h2.ones⟩⟩
  obtain ⟨cp, e', fz, h3, h4⟩ := h2.there
  exact ⟨cp, e', fz, by rw [hw i.blk (Array.getElem?_eq_some_iff.1 h3).1]; exact h3, h4⟩
theorem Rep.claim (h : Rep P m L w) {k : Nat} {cs : List Value} {cc : Array Value} {e : TypeId} (hw : w.heap[k]? = some (.cells cc e)) (hv : VRs m cs cc.toList) (ho : ∀ v ∈ cs, one v = true)
    (hfree : ∀ (r : Nat) (cs' : List Value) (e' : TypeId) (ro : Bool) (sp : Nat) (i : Info), L[r]? = some (.cells cs' e' ro sp) → m r = some i → i.blk ≠ k) :
    Rep P (ins m L.length ⟨k, 0, 0, 0⟩) (L ++ [.cells cs e false 0]) w := by
  have hext := MExt.ins (m := m) (r := L.length) ⟨k, 0, 0, 0⟩ (h.fresh _ (Nat.le_refl _))
  have hins : ∀ r i, r < L.length → ins m L.length ⟨k, 0, 0, 0⟩ r = some i → m r = some i := fun r i hr hm => by
    unfold Rlm.ins at hm
    rw [if_neg (by omega)] at hm
    exact hm
  have hinsL : ∀ i, ins m L.length ⟨k, 0, 0, 0⟩ L.length = some i → i = ⟨k, 0, 0, 0⟩ := fun i hm => by
    unfold Rlm.ins at hm
    rw [if_pos rfl] at hm
    injection hm with hm
    exact hm.symm
  have hget : ∀ r b, (L ++ [LBlk.cells cs e false 0])[r]? = some b → (r < L.length ∧ L[r]? = some b) ∨ (r = L.length ∧ b = .cells cs e false 0) := fun r b hr => by
    rcases Nat.lt_trichotomy r L.length with h1 | h1 | h1
    · rw [List.getElem?_append_left h1] at hr; exact .inl ⟨h1, hr⟩
    · subst h1; rw [List.getElem?_append_right (Nat.le_refl _)] at hr; simp at hr; exact .inr ⟨rfl, hr.symm⟩
    · rw [List.getElem?_eq_none (by simp; omega)] at hr; cases hr
  have hloop : ∀ (r : Nat) (b : LBlk), aside b = true → (L ++ [LBlk.cells cs e false 0])[r]? = some b → L[r]? = some b := fun r b hab hq => by
    rcases hget _ _ hq with ⟨_, h⟩ | ⟨_, h⟩
    · exact h
    · subst h; cases hab
  refine ⟨fun r hr => ?_, fun r ds e2 ro2 sp2 hr2 => ?_, fun r r' j j' h6 h7 h8 h9 h10 => ?_, h.loops.keep hext hloop fun b lp _ hb => hb⟩
  · unfold Rlm.ins
    simp at hr
    rw [if_neg (by omega)]
    exact h.fresh r (by omega)
  · rcases hget _ _ hr2 with ⟨h1, h2⟩ | ⟨h1, h2⟩
    · obtain ⟨j, h3, h4⟩ := h.row _ _ _ _ _ h2
      refine ⟨j, hext _ _ h3, ⟨?_, h4.ones⟩⟩
      obtain ⟨cp2, e3, fz2, h8, h9, h10⟩ := h4.there
      refine ⟨cp2, e3, fz2, h8, fun q v hk => ?_, h10⟩
      obtain ⟨v', h11, h12⟩ := h9 q v hk
      exact ⟨v', h11, h12.mono hext⟩
    · subst h1
      injection h2 with e1 e2 e3 e4
      subst e1; subst e2; subst e3; subst e4
      refine ⟨_, by unfold Rlm.ins; rw [if_pos rfl], ⟨⟨_, _, _, hw, fun j v hj => ?_, fun _ => ⟨rfl, rfl, fun o _ => by simp⟩, fun hne => absurd rfl hne⟩, ho⟩⟩
      obtain ⟨v', h3, h4⟩ := hv.get hj
      exact ⟨v', by simpa using h3, h4.mono hext⟩
  · obtain ⟨c1, c2, c3, c4⟩ := h6
    obtain ⟨d1, d2, d3, d4, d5⟩ := h7
    rcases hget _ _ c4 with ⟨g1, g2⟩ | ⟨g1, g2⟩ <;> rcases hget _ _ d5 with ⟨g3, g4⟩ | ⟨g3, g4⟩
    · exact h.sep r r' j j' ⟨_, _, _, g2⟩ ⟨_, _, _, _, g4⟩ h8 (hins _ _ g1 h9) (hins _ _ g3 h10)
    · subst g3
      have := hfree _ _ _ _ _ _ g2 (hins _ _ g1 h9)
      rw [hinsL _ h10]
      exact this
    · subst g1
      have := hfree _ _ _ _ _ _ g4 (hins _ _ g3 h10)
      rw [hinsL _ h9]
      exact fun hh => this hh.symm
    · omega
/-- Made the other way round. -/
theorem Rep.pair (h : Rep P m L w) {cs0 cs1 : List Value} {cc0 cc1 : Array Value} {e0 e1 : TypeId} (hv0 : ∀ m, VRs m cs0 cc0.toList) (hv1 : ∀ m, VRs m cs1 cc1.toList) (ho0 : ∀ v ∈ cs0, one v = true) (ho1 : ∀ v ∈ cs1, one v = true)
    (hw : w'.heap = (w.heap.push (.cells cc1 e1)).push (.cells cc0 e0)) (hos : w'.os = w.os) (ht : w'.tape = w.tape) (hout : w'.output = w.output) :
    ∃ m', m' L.length = some ⟨w.heap.size + 1, 0, 0, 0⟩ ∧ m' (L.length + 1) = some ⟨w.heap.size, 0, 0, 0⟩ ∧ Rep P m' (L ++ [.cells cs0 e0 false 0] ++ [.cells cs1 e1 false 0]) w' ∧ Tr m L w m' (L ++ [.cells cs0 e0 false 0] ++ [.cells cs1 e1 false 0]) w' := by
  have hsz : w'.heap.size = w.heap.size + 2 := by rw [hw]; simp
  have hold : ∀ b, b < w.heap.size → w'.heap[b]? = w.heap[b]? := fun b hb => by
    rw [hw, Array.getElem?_push, if_neg (by simp; omega), Array.getElem?_push, if_neg (by omega)]
  have g0 : w'.heap[w.heap.size + 1]? = some (.cells cc0 e0) := by rw [hw, Array.getElem?_push, if_pos (by simp)]
  have g1 : w'.heap[w.heap.size]? = some (.cells cc1 e1) := by rw [hw, Array.getElem?_push, if_neg (by simp), Array.getElem?_push, if_pos rfl]
  have hblk : ∀ (r : Nat) (cs' : List Value) (e' : TypeId) (ro : Bool) (sp : Nat) (i : Info), L[r]? = some (.cells cs' e' ro sp) → m r = some i → i.blk < w.heap.size := fun r cs' e' ro sp i hr hm => by
    obtain ⟨j, h1, h2⟩ := h.row _ _ _ _ _ hr
    rw [hm] at h1; injection h1 with h1; subst h1
    obtain ⟨_, _, _, h3, _⟩ := h2.there
    exact (Array.getElem?_eq_some_iff.1 h3).1
  have r1 := (h.grow hold).claim (cs := cs0) g0 (hv0 m) ho0 fun r cs' e' ro sp i hr hm => by have := hblk r cs' e' ro sp i hr hm; omega
  have hl : (L ++ [LBlk.cells cs0 e0 false 0]).length = L.length + 1 := by simp
  have r2 := r1.claim (cs := cs1) g1 (hv1 _) ho1 fun r cs' e' ro sp i hr hm => by
    rcases Nat.lt_trichotomy r L.length with h1 | h1 | h1
    · rw [List.getElem?_append_left h1] at hr
      unfold ins at hm
      rw [if_neg (by omega)] at hm
      have := hblk r cs' e' ro sp i hr hm
      omega
    · subst h1
      unfold ins at hm
      rw [if_pos rfl] at hm
      injection hm with hm
      subst hm
      simp only
      omega
    · rw [List.getElem?_eq_none (by simp; omega)] at hr; cases hr
  rw [hl] at r2
  have e0' : MExt m (ins m L.length ⟨w.heap.size + 1, 0, 0, 0⟩) := .ins _ (h.fresh _ (Nat.le_refl _))
  have e1' : MExt (ins m L.length ⟨w.heap.size + 1, 0, 0, 0⟩) (ins (ins m L.length ⟨w.heap.size + 1, 0, 0, 0⟩) (L.length + 1) ⟨w.heap.size, 0, 0, 0⟩) := .ins _ (by unfold ins; rw [if_neg (by omega)]; exact h.fresh _ (by omega))
  refine ⟨_, by unfold ins; rw [if_neg (by omega), if_pos rfl], by unfold ins; rw [if_pos rfl], r2, .of h (e0'.trans e1') (by simp) (by omega) hos ht hout (fun r i hr hm => ?_) (fun b hb _ => hold b hb) fun r b hab hr => ?_⟩
  · obtain ⟨c2, c3, c4, c5⟩ := hr
    rcases Nat.lt_or_ge r L.length with h1 | h1
    · unfold ins at hm
      rw [if_neg (by omega), if_neg (by omega)] at hm
      rw [List.append_assoc, List.getElem?_append_left h1] at c5
      exact .inl ⟨r, i, ⟨_, _, _, c5⟩, hm, rfl⟩
    · unfold ins at hm
      split at hm
      · injection hm with hm; subst hm; exact .inr (Nat.le_refl _)
      · split at hm
        · injection hm with hm; subst hm; exact .inr (by simp)
        · rw [h.fresh r h1] at hm; cases hm
  · rcases Nat.lt_or_ge r L.length with h1 | h1
    · rw [List.append_assoc, List.getElem?_append_left h1] at hr; exact hr
    · rw [List.append_assoc, List.getElem?_append_right h1] at hr
      match hq : r - L.length with
      | 0 => rw [hq] at hr; simp at hr; subst hr; cases hab
      | 1 => rw [hq] at hr; simp at hr; subst hr; cases hab
      | q + 2 => rw [hq] at hr; simp at hr
end
end Go.Rlm
end

section
namespace Go.Rlm
section
variable {P : Program} {r : LR} {call : Caller} {ops : Array Oper} {tr : List Rec} {env0 e' : Env} {L0 L' : LHeap} {m0 : RMap} {w0 : World} {ds : List Deferred} {N : Nat}
theorem getD_true {listed : Array Bool} {j : Nat} (hj : j < listed.size) (h : listed.getD j true = false) : listed[j]? = some false := by
  rw [Array.getElem?_eq_getElem hj]
  simp [Array.getD, hj] at h
  rw [h]
theorem getD_false {listed : Array Bool} {j : Nat} (h : listed.getD j false = true) : listed[j]? = some true := by
  rcases Nat.lt_or_ge j listed.size with hj | hj
  · rw [Array.getElem?_eq_getElem hj]
    simp [Array.getD, hj] at h
    rw [h]
  · simp [Array.getD, Nat.not_lt.2 hj] at h
/-- What an operation that may come up sees. -/
theorem Inv.sees (hS : Setting P call ops tr env0 L0 e' L') {listed : Array Bool} {a : Act} {j : Nat} {o : Oper} {rc : Rec} (ho : ops[j]? = some o) (hrc : tr[j]? = some rc) (hrce : envAt tr e' j = rc.env)
    (hj : listed[j]? = some false) (hdeps : ∀ i, bef ops j i = true → listed[i]? = some true) (hdown : ∀ j i, listed[j]? = some true → bef ops j i = true → listed[i]? = some true) {m : RMap}
    (v1 : ∀ (t i : Nat) (rc : Rec) (o : Oper), tr[i]? = some rc → ops[i]? = some o → listed[i]? = some true → o.dst = some t → (∀ (k : Nat) (o' : Oper), i < k → ops[k]? = some o' → listed[k]? = some true → o'.dst ≠ some t) → ∃ v', a.tmps[t]? = some v' ∧ VR m rc.v v')
    (v2 : ∀ t : Nat, (∀ (k : Nat) (o' : Oper), ops[k]? = some o' → listed[k]? = some true → o'.dst ≠ some t) → ∀ v, look env0 t = some v → ∃ v', a.tmps[t]? = some v' ∧ VR m v v') :
    ER m (res rc.env (tmpsOf ops.toList o)) a.tmps := by
  have hjs := (Array.getElem?_eq_some_iff.1 ho).1
  have notLater : ∀ (k : Nat) (o' : Oper) (t : Nat), t ∈ tmpsOf ops.toList o → ops[k]? = some o' → o'.dst = some t → listed[k]? = some true → k < j := fun k o' t ht hk hd hl => by
    rcases Nat.lt_trichotomy k j with h | h | h
    · exact h
    · subst h; rw [hj] at hl; cases hl
    · have := hS.order hk ho (by omega) hd (.inl ht)
      rw [Nat.max_eq_left (by omega), Nat.min_eq_right (by omega)] at this
      have := hdown k j hl this
      rw [hj] at this; cases this
  intro t v hv
  rw [look_res] at hv
  split at hv
  case isFalse => cases hv
  rename_i ht
  rw [← hrce] at hv
  rcases hS.env_look t j (by omega) with ⟨i, oi, rci, g1, g2, g3, g4, g5, g6⟩ | ⟨g1, g2⟩
  · rw [g6] at hv
    injection hv with hv
    subst hv
    have hb := hS.order g2 ho (by omega) g4 (.inl ht)
    rw [Nat.max_eq_right (by omega), Nat.min_eq_left (by omega)] at hb
    refine v1 t i rci oi g3 g2 (hdeps i hb) g4 fun k o' h1 h2 h3 h4 => ?_
    exact g5 k o' h1 (notLater k o' t ht h2 h4 h3) h2 h4
  · rw [g2] at hv
    refine v2 t (fun k o' h2 h3 h4 => ?_) v hv
    exact g1 k o' (notLater k o' t ht h2 h4 h3) h2 h4
/-- One more operation. -/
theorem Inv.step (hS : Setting P call ops tr env0 L0 e' L') {listed : Array Bool} {a : Act} {w : World} (hI : Inv P ops tr env0 L0 L' m0 w0 ds N listed a w) {j : Nat} {o : Oper} {rc : Rec} (ho : ops[j]? = some o) (hrc : tr[j]? = some rc)
    (hj : listed[j]? = some false) (hdeps : ∀ i, bef ops j i = true → listed[i]? = some true) (hdst : ∀ d, o.dst = some d → d < N)
    {m m' : RMap} {p p' : Nat} {w' : World} {v' : Value} (hp' : p' ≤ ops.size) (hext : MExt m m')
    (hw1 : ∀ (q : Nat) (rc : Rec), q < p' → tr[q]? = some rc → rc.t = 3 → (q = j ∨ listed[q]? = some true)) (hw2 : ∀ (q : Nat) (rc : Rec), p' ≤ q → tr[q]? = some rc → rc.t = 3 → q ≠ j ∧ listed[q]? = some false)
    (hr : Rep P m' (heapAt tr L' p') w') (ht : Tr m0 L0 w0 m' (heapAt tr L' p') w') (hv : VR m' rc.v v')
    (v1 : ∀ (t i : Nat) (rc : Rec) (o : Oper), tr[i]? = some rc → ops[i]? = some o → listed[i]? = some true → o.dst = some t → (∀ (k : Nat) (o' : Oper), i < k → ops[k]? = some o' → listed[k]? = some true → o'.dst ≠ some t) → ∃ v', a.tmps[t]? = some v' ∧ VR m rc.v v')
    (v2 : ∀ t : Nat, (∀ (k : Nat) (o' : Oper), ops[k]? = some o' → listed[k]? = some true → o'.dst ≠ some t) → ∀ v, look env0 t = some v → ∃ v', a.tmps[t]? = some v' ∧ VR m v v') :
    Inv P ops tr env0 L0 L' m0 w0 ds N (listed.setIfInBounds j true) (a.put o.dst v') w' := by
  have hjs := (Array.getElem?_eq_some_iff.1 ho).1
  have hjl : j < listed.size := by rw [hI.sz]; exact hjs
  have notLater : ∀ (k : Nat) (o' : Oper) (t : Nat), o.dst = some t → ops[k]? = some o' → o'.dst = some t → listed[k]? = some true → k < j := fun k o' t hd0 hk hd hl => by
    rcases Nat.lt_trichotomy k j with h | h | h
    · exact h
    · subst h; rw [hj] at hl; cases hl
    · have := hS.order hk ho (by omega) hd (.inr hd0)
      rw [Nat.max_eq_left (by omega), Nat.min_eq_right (by omega)] at this
      have := hI.down k j hl this
      rw [hj] at this; cases this
  have tmpOther : ∀ t, o.dst ≠ some t → (a.put o.dst v').tmps[t]? = a.tmps[t]? := fun t hne => by
    cases hd : o.dst with
    | none => rfl
    | some d =>
      have : d ≠ t := fun e => hne (by rw [hd, e])
      simp [Act.put, Array.getElem?_setIfInBounds_ne this]
  have tmpSelf : ∀ t, o.dst = some t → (a.put o.dst v').tmps[t]? = some v' := fun t hd => by
    have := hdst t hd
    rw [hd]
    simp only [Act.put]
    rw [Array.getElem?_setIfInBounds, if_pos rfl, if_pos (by rw [hI.size]; exact this)]
  refine ⟨by simpa using hI.sz, fun k i hk hb => ?_, ⟨m', p', hp', fun q rq h1 h2 h3 => ?_, fun q rq h1 h2 h3 => ?_, hr, ht, fun t i rci oi h1 h2 h3 h4 h5 => ?_, fun t h1 v hv2 => ?_⟩, by rw [put_defers]; exact hI.defers, by rw [put_size]; exact hI.size⟩
  · rw [listed_set hjl] at hk ⊢
    rcases hk with rfl | hk
    · exact .inr (hdeps i hb)
    · exact .inr (hI.down k i hk hb)
  · rw [listed_set hjl]; exact hw1 q rq h1 h2 h3
  · rw [listed_set_false hjl]; exact hw2 q rq h1 h2 h3
  · rw [listed_set hjl] at h3
    by_cases hd : o.dst = some t
    · rw [tmpSelf t hd]
      rcases h3 with rfl | h3
      · rw [hrc] at h1; injection h1 with h1; subst h1
        exact ⟨v', rfl, hv⟩
      · have := notLater i oi t hd h2 h4 h3
        exact absurd hd (h5 j o this ho ((listed_set hjl).2 (.inl rfl)))
    · rw [tmpOther t hd]
      rcases h3 with rfl | h3
      · rw [ho] at h2; injection h2 with h2; subst h2
        exact absurd h4 hd
      · obtain ⟨x, g1, g2⟩ := v1 t i rci oi h1 h2 h3 h4 fun k o' k1 k2 k3 => h5 k o' k1 k2 ((listed_set hjl).2 (.inr k3))
        exact ⟨x, g1, g2.mono hext⟩
  · have hd : o.dst ≠ some t := h1 j o ho ((listed_set hjl).2 (.inl rfl))
    rw [tmpOther t hd]
    obtain ⟨x, g1, g2⟩ := v2 t (fun k o' k2 k3 => h1 k o' k2 ((listed_set hjl).2 (.inr k3))) v hv2
    exact ⟨x, g1, g2.mono hext⟩
/-- In whatever heap it comes up, a reading operation yields what it yielded in the text's order. -/
theorem Inv.reads (hS : Setting P call ops tr env0 L0 e' L') {listed : Array Bool} {j : Nat} {o : Oper} {rc : Rec} (ho : ops[j]? = some o) (hrc : tr[j]? = some rc) (hj : listed[j]? = some false)
    (hdeps : ∀ i, bef ops j i = true → listed[i]? = some true) (hdown : ∀ j i, listed[j]? = some true → bef ops j i = true → listed[i]? = some true) {p : Nat} (hp : p ≤ ops.size)
    (w1 : ∀ (q : Nat) (rc : Rec), q < p → tr[q]? = some rc → rc.t = 3 → listed[q]? = some true) (w2 : ∀ (q : Nat) (rc : Rec), p ≤ q → tr[q]? = some rc → rc.t = 3 → listed[q]? = some false)
    (h2 : rc.t = 2) (hv : Val P o rc.env rc.L rc.v) (hL : rc.L' = rc.L) (h4 : heapAt tr L' j = rc.L) (h6 : heapAt tr L' (j + 1) = rc.L') : Val P o rc.env (heapAt tr L' p) rc.v := by
  have hjs := (Array.getElem?_eq_some_iff.1 ho).1
  have ho' : ops.toList[j]? = some o := by simpa using ho
  have oper : ∀ q rq, tr[q]? = some rq → ∃ oq, ops[q]? = some oq := fun q rq hq => by
    have := (List.getElem?_eq_some_iff.1 hq).1
    rw [hS.len] at this
    exact ⟨ops[q], Array.getElem?_eq_getElem this⟩
  rcases Nat.lt_or_ge j p with hlt | hge
  · -- writes between j and p have come up
    by_cases hex : ∃ q rq, j < q ∧ q < p ∧ tr[q]? = some rq ∧ rq.t = 3
    · -- the last one
      have : ∃ q rq, j < q ∧ q < p ∧ tr[q]? = some rq ∧ rq.t = 3 ∧ ∀ k rk, q < k → k < p → tr[k]? = some rk → rk.t ≠ 3 := by
        clear hv
        induction p with
        | zero => omega
        | succ p ih =>
          obtain ⟨q, rq, g1, g2, g3, g4⟩ := hex
          by_cases hpp : ∃ rp, tr[p]? = some rp ∧ rp.t = 3 ∧ j < p
          · obtain ⟨rp, k1, k2, k3⟩ := hpp
            exact ⟨p, rp, k3, by omega, k1, k2, fun k rk h1 h2 => by omega⟩
          · have hqp : q < p := by
              rcases Nat.lt_or_ge q p with h | h
              · exact h
              · have : q = p := by omega
                subst this
                exact absurd ⟨rq, g3, g4, g1⟩ hpp
            obtain ⟨q', rq', k1, k2, k3, k4, k5⟩ := ih (by omega) (fun q rc h1 h2 h3 => w1 q rc (by omega) h2 h3) (fun q rc h1 h2 h3 => by
              rcases Nat.lt_or_ge p q with h | h
              · exact w2 q rc (by omega) h2 h3
              · have : q = p := by omega
                subst this
                exact absurd ⟨rc, h2, h3, by omega⟩ hpp) (by omega) ⟨q, rq, g1, hqp, g3, g4⟩
            refine ⟨q', rq', k1, by omega, k3, k4, fun k rk h1 h2 h3 h4 => ?_⟩
            rcases Nat.lt_or_ge k p with h | h
            · exact k5 k rk h1 h h3 h4
            · have : k = p := by omega
              subst this
              exact hpp ⟨rk, h3, h4, by omega⟩
      obtain ⟨q, rq, g1, g2, g3, g4, g5⟩ := this
      obtain ⟨oq, hoq⟩ := oper q rq g3
      obtain ⟨rq', k1, _, _, _, _, k6⟩ := hS.recd hoq
      rw [g3] at k1; injection k1 with k1; subst k1
      have hb : tbit ((befores ops.toList []).getD q 0) j = false := by
        cases hb : tbit ((befores ops.toList []).getD q 0) j with
        | false => rfl
        | true =>
          have := hdown q j (w1 q rq g2 g3 g4) hb
          rw [hj] at this; cases this
      have hval := (hS.trc.pairs j q rc rq o oq g1 hrc g3 ho' (by simpa using hoq)).2.2 h2 g4 (by simpa using hb)
      have hsame := hS.heap_same (p - (q + 1)) (q + 1) (by omega) fun k rk h1 h2 h3 => g5 k rk (by omega) (by omega) h3
      rw [show q + 1 + (p - (q + 1)) = p by omega, k6] at hsame
      rw [hsame]; exact hval
    · have hsame := hS.heap_same (p - (j + 1)) (j + 1) (by omega) fun k rk h1 h2 h3 h4 => hex ⟨k, rk, by omega, by omega, h3, h4⟩
      rw [show j + 1 + (p - (j + 1)) = p by omega, h6, hL] at hsame
      rw [hsame]; exact hv
  · -- writes between p and j have not come up
    by_cases hex : ∃ q rq, p ≤ q ∧ q < j ∧ tr[q]? = some rq ∧ rq.t = 3
    · have : ∃ q rq, p ≤ q ∧ q < j ∧ tr[q]? = some rq ∧ rq.t = 3 ∧ ∀ k rk, p ≤ k → k < q → tr[k]? = some rk → rk.t ≠ 3 := by
        obtain ⟨q, hq⟩ := hex
        induction q using Nat.strongRecOn with
        | _ q ih =>
          obtain ⟨rq, g1, g2, g3, g4⟩ := hq
          by_cases hs : ∃ k, k < q ∧ ∃ rk, p ≤ k ∧ k < j ∧ tr[k]? = some rk ∧ rk.t = 3
          · obtain ⟨k, hk, hk2⟩ := hs
            exact ih k hk hk2
          · exact ⟨q, rq, g1, g2, g3, g4, fun k rk h1 h2 h3 h4 => hs ⟨k, h2, rk, h1, by omega, h3, h4⟩⟩
      obtain ⟨q, rq, g1, g2, g3, g4, g5⟩ := this
      obtain ⟨oq, hoq⟩ := oper q rq g3
      obtain ⟨rq', k1, _, _, k4, _, _⟩ := hS.recd hoq
      rw [g3] at k1; injection k1 with k1; subst k1
      have hb : tbit ((befores ops.toList []).getD j 0) q = false := by
        cases hb : tbit ((befores ops.toList []).getD j 0) q with
        | false => rfl
        | true =>
          have h8 := hdeps q hb
          rw [w2 q rq g1 g3 g4] at h8; cases h8
      have hval := (hS.trc.pairs q j rq rc oq o g2 g3 hrc (by simpa using hoq) ho').2.1 g4 h2 (by simpa using hb)
      have hsame := hS.heap_same (q - p) p (by omega) fun k rk h1 h2 h3 => g5 k rk h1 (by omega) h3
      rw [show p + (q - p) = q by omega, k4] at hsame
      rw [← hsame]; exact hval
    · have hsame := hS.heap_same (j - p) p (by omega) fun k rk h1 h2 h3 h4 => hex ⟨k, rk, h1, by omega, h3, h4⟩
      rw [show p + (j - p) = j by omega, h4] at hsame
      rw [← hsame]; exact hv
/-- What is known of the first two. -/
theorem twoMakes_facts {ops : Array Oper} {o : Oper} (ho : ops.toList[1]? = some o) (h : twoMakes ops.toList (befores ops.toList []) = true) :
    ∃ (o0 : Oper) (rest : List Oper) (d0 d1 : Nat) (t0 : TypeId) (x0 y0 : Value) (t1 : TypeId) (x1 y1 : Value), ops.toList = o0 :: o :: rest ∧ o0.guard = none ∧ o.guard = none ∧ o0.op = .makeSlice t0 (.const x0) (.const y0) ∧ o.op = .makeSlice t1 (.const x1) (.const y1) ∧
      o0.dst = some d0 ∧ o.dst = some d1 ∧ d0 ≠ d1 ∧ (befores ops.toList []).getD 0 0 = 0 ∧ (befores ops.toList []).getD 1 0 = 0 ∧ ∀ q, q < ops.size → 1 < q → bef ops q 0 = true := by
  have mk : ∀ {o : Oper}, isMake o = true → o.guard = none ∧ ∃ t x y, o.op = .makeSlice t (.const x) (.const y) := fun {o} h => by
    unfold isMake at h
    rw [Bool.and_eq_true] at h
    refine ⟨by simpa using h.1, ?_⟩
    have h2 := h.2
    split at h2
    · rename_i t x y hop; exact ⟨t, x, y, hop⟩
    · cases h2
  unfold twoMakes at h
  split at h
  case h_2 => cases h
  rename_i o0 o1 rest hl
  rw [hl] at ho
  simp at ho
  subst ho
  simp only [Bool.and_eq_true] at h
  obtain ⟨⟨⟨h1, h2⟩, h3⟩, ⟨h4, h5⟩, h6⟩ := h
  obtain ⟨g0, t0, x0, y0, p0⟩ := mk h1
  obtain ⟨g1, t1, x1, y1, p1⟩ := mk h2
  cases hd0 : o0.dst with
  | none => rw [hd0] at h3; cases h3
  | some d0 =>
    cases hd1 : o1.dst with
    | none => rw [hd0, hd1] at h3; cases h3
    | some d1 =>
      rw [hd0, hd1] at h3
      simp only [Bool.not_eq_true'] at h3
      have hne : d0 ≠ d1 := fun e => by rw [e, Nat.beq_refl] at h3; cases h3
      refine ⟨o0, rest, d0, d1, t0, x0, y0, t1, x1, y1, hl, g0, g1, p0, p1, hd0, rfl, hne, Nat.eq_of_beq_eq_true h4, Nat.eq_of_beq_eq_true h5, fun q hq h1q => ?_⟩
      have hq' : q < ops.toList.length := by simpa using hq
      have := List.all_eq_true.1 h6 q (by rw [List.mem_range]; exact hq')
      rw [Bool.or_eq_true] at this
      rcases this with this | this
      · have := Nat.le_of_ble_eq_true this; omega
      · exact this
/-- **Every order is followed.** -/
theorem any_ok {ro : Option Nat} {n : Nat} (hc : CallOk P call) (hS : Setting P call ops tr env0 L0 e' L') (hd : dstOk N ops.toList = true) {Q : Exit → Act → World → Prop}
    (fin : ∀ m w a, Rep P m L' w → Tr m0 L0 w0 m L' w → ER m e' a.tmps → a.defers = ds → a.tmps.size = N → Q .normal a w) :
    ∀ (fuel : Nat) (listed : Array Bool) (a : Act) (w : World), Inv P ops tr env0 L0 L' m0 w0 ds N listed a w → listed.toList.count false ≤ fuel → wpAnyIn (fence ro) n P .any ops Q fuel listed a w := by
  have hdst : ∀ (j : Nat) (o : Oper), ops[j]? = some o → ∀ d, o.dst = some d → d < N := fun j o ho d hdd => by
    have := List.all_eq_true.1 hd o (by rw [← Array.mem_def]; exact Array.mem_of_getElem? ho)
    rw [hdd] at this
    simpa using this
  have over : ∀ (listed : Array Bool) (a : Act) (w : World), Inv P ops tr env0 L0 L' m0 w0 ds N listed a w → Region.ready .any ops listed = [] → Q .normal a w := fun listed a w hI hnil => by
    have all : ∀ j, j < ops.size → listed[j]? = some true := fun j => by
      induction j using Nat.strongRecOn with
      | _ j ih =>
        intro hj
        rcases listed_cases (listed := listed) (k := j) (by rw [hI.sz]; exact hj) with h | h
        · exact h
        · exfalso
          have : j ∈ Region.ready .any ops listed := by
            rw [mem_ready]
            have hjl : j < listed.size := by rw [hI.sz]; exact hj
            refine ⟨?_, ops[j], by simp, fun e he hb => ?_⟩
            · rw [Array.getElem?_eq_getElem hjl] at h
              injection h with h
              simp [Array.getD, hjl, h]
            · have hlt := hS.back (j := j) (o := ops[j]) (by simp) he hb
              have := ih e.on hlt (by omega)
              have hel : e.on < listed.size := by rw [hI.sz]; omega
              rw [Array.getElem?_eq_getElem hel] at this
              injection this with this
              simp [Array.getD, hel, this]
          rw [hnil] at this
          cases this
    obtain ⟨m, p, hp, w1, w2, hr, ht, v1, v2⟩ := hI.state
    have hsame := hS.heap_same (ops.size - p) p (by omega) fun q rq h1 h2 h3 h4 => by
      have g1 := w2 q rq h1 h3 h4
      rw [all q (by omega)] at g1; cases g1
    rw [show p + (ops.size - p) = ops.size by omega, hS.final.2] at hsame
    rw [← hsame] at hr ht
    refine fin m w a hr ht (fun t v hv => ?_) hI.defers hI.size
    rw [← hS.final.1] at hv
    rcases hS.env_look t ops.size (Nat.le_refl _) with ⟨i, oi, rci, g1, g2, g3, g4, g5, g6⟩ | ⟨g1, g2⟩
    · rw [g6] at hv
      injection hv with hv
      subst hv
      exact v1 t i rci oi g3 g2 (all i g1) g4 fun k o' h1 h2 _ => g5 k o' h1 (Array.getElem?_eq_some_iff.1 h2).1 h2
    · rw [g2] at hv
      exact v2 t (fun k o' h2 _ => g1 k o' (Array.getElem?_eq_some_iff.1 h2).1 h2) v hv
  intro fuel
  induction fuel using Nat.strongRecOn with
  | _ fuel ihS =>
  cases fuel with
  | zero =>
    intro listed a w hI hcnt
    have hnil : Region.ready .any ops listed = [] := by
      cases hr : Region.ready .any ops listed with
      | nil => rfl
      | cons j l =>
        have hm : j ∈ Region.ready .any ops listed := by rw [hr]; simp
        obtain ⟨h1, o, h2, _⟩ := mem_ready.1 hm
        have hjl : j < listed.size := by rw [hI.sz]; exact (Array.getElem?_eq_some_iff.1 h2).1
        have h3 := getD_true hjl h1
        have : false ∈ listed.toList := by rw [← Array.mem_def]; exact Array.mem_of_getElem? h3
        have := List.count_pos_iff.2 this
        omega
    exact ⟨hnil, over listed a w hI hnil⟩
  | succ fuel =>
    have ih := ihS fuel (Nat.lt_succ_self _)
    intro listed a w hI hcnt
    refine ⟨over listed a w hI, fun j hjr => ?_⟩
    obtain ⟨h1, o, ho, hall⟩ := mem_ready.1 hjr
    have hjs := (Array.getElem?_eq_some_iff.1 ho).1
    have hjl : j < listed.size := by rw [hI.sz]; exact hjs
    have hj := getD_true hjl h1
    have hdeps : ∀ i, bef ops j i = true → listed[i]? = some true := fun i hb => by
      obtain ⟨e, g1, g2, g3⟩ := bef_get (ops := ops.toList) (j := j) (by simpa using ho) hb
      have g4 := getD_false (hall e (by simpa using g1) g2)
      rcases g3 with rfl | g3
      · exact g4
      · exact hI.down e.on i g4 g3
    have hcnt' : (listed.setIfInBounds j true).toList.count false ≤ fuel := by
      have hjl' : j < listed.toList.length := by simpa using hjl
      have e1 : (listed.setIfInBounds j true).toList = listed.toList.set j true := by simp
      have e2 : listed.toList[j] = false := by
        rw [Array.getElem?_eq_getElem hjl] at hj
        exact Option.some.inj hj
      have h0 : 0 < listed.toList.count false := List.count_pos_iff.2 (by rw [← e2]; exact List.getElem_mem _)
      have e3 := List.count_set (a := true) (b := false) hjl'
      rw [e2] at e3
      rw [e1, e3]
      have e4 : (if ((false : Bool) == false) = true then 1 else 0) = 1 := rfl
      have e5 : (if ((true : Bool) == false) = true then 1 else 0) = 0 := rfl
      omega
    obtain ⟨rc, hrc, hloc, henv, hheap, _, hheap2⟩ := hS.recd ho
    obtain ⟨m, p, hp, w1, w2, hr, ht, v1, v2⟩ := hI.state
    have hER := Inv.sees hS ho hrc henv hj hdeps hI.down v1 v2
    unfold wpOpIn
    rw [ho]
    simp only
    -- an operation that leaves the heap alone
    have quiet : rc.t ≠ 3 → ∀ v' : Value, VR m rc.v v' → wpAnyIn (fence ro) n P .any ops Q fuel (listed.setIfInBounds j true) (a.put o.dst v') w := fun hne v' hv => by
      have k1 : ∀ (q : Nat) (rq : Rec), p ≤ q → tr[q]? = some rq → rq.t = 3 → q ≠ j ∧ listed[q]? = some false := fun q rq h1 h2 h3 => by
        refine ⟨fun e => ?_, w2 q rq h1 h2 h3⟩
        rw [e, hrc] at h2
        have h2 := Option.some.inj h2
        exact hne (by rw [h2]; exact h3)
      exact ih _ _ _ (Inv.step hS hI ho hrc hj hdeps (hdst j o ho) (p := 0) hp (.refl m) (fun q rq h1 h2 h3 => .inr (w1 q rq h1 h2 h3)) k1 hr ht hv v1 v2) hcnt'
    have quiet2 : rc.t ≠ 3 → kindOf P o.op ≠ .write → Val P o rc.env (heapAt tr L' p) rc.v → o.wpIn (fence ro) n P a w (wpAnyIn (fence ro) n P .any ops Q fuel (listed.setIfInBounds j true)) Q := fun hne hk hv => by
      have hv' : Val P o (res rc.env (tmpsOf ops.toList o)) (heapAt tr L' p) rc.v := fun K2 => by rw [lop_res]; exact hv K2
      obtain ⟨v', g1, g2⟩ := hv'.quiet hk m w a hr hER
      refine ⟨fun _ _ => trivial, ?_⟩
      rw [Oper.semAt_eq _ _ _ (lop_no_defer (hv' fun v L => some (.ret v L)))]
      rcases g1 with g1 | ⟨g1, rfl⟩
      · rw [g1]; exact quiet hne v' g2
      · rw [g1]; exact quiet hne _ g2
    have hwant : ∀ b, wants ops.toList rc.env o = some b → Region.wanted o (yielded ops a.tmps) = b := fun b hb => wants_ok hER (by rw [wants_res]; exact hb)
    rcases hloc with ⟨h2, h3, h4, h5⟩ | ⟨h2, h3, h4, h5, h6⟩ | ⟨h2, h3, h4, h5, h6⟩ | ⟨h2, h3, h4, h5⟩
    · rw [if_neg (by rw [hwant _ h3]; simp)]
      refine ⟨fun _ _ => trivial, ?_⟩
      exact quiet (by omega) Go.undef (by rw [h4]; exact .undef)
    · rw [if_pos (hwant _ h3)]
      exact (quiet2 (by omega) (by rw [h4]; intro h; cases h) (h6 _))
    · rw [if_pos (hwant _ h3)]
      exact (quiet2 (by omega) (by rw [h4]; intro h; cases h) (Inv.reads hS ho hrc hj hdeps hI.down hp w1 w2 h2 h6 h5 hheap hheap2))
    · rw [if_pos (hwant _ h3)]
      -- no write between p and j
      have hpj : p ≤ j := by
        rcases Nat.lt_or_ge j p with h | h
        · have g1 := w1 j rc h hrc h2
          rw [hj] at g1; cases g1
        · exact h
      by_cases hsw : twoMakes ops.toList (befores ops.toList []) = true ∧ j = 1 ∧ listed[0]? = some false
      · -- the second one of two makes ahead of the first one
        obtain ⟨htw, rfl, h0f⟩ := hsw
        obtain ⟨o0, rest, d0, d1, t0, x0, y0, t1, x1, y1, hol, hg0, hg1, hop0, hop1, hd0, hd1, hdd, hb0, hb1, hall2⟩ := twoMakes_facts (by simpa using ho) htw
        have ho0 : ops[0]? = some o0 := by rw [← Array.getElem?_toList, hol]; rfl
        have hfalse : ∀ q, q < ops.size → listed[q]? = some false := fun q hq => by
          rcases listed_cases (listed := listed) (k := q) (by rw [hI.sz]; exact hq) with hh | hh
          · exfalso
            rcases Nat.lt_or_ge 1 q with h1q | h1q
            · have := hI.down q 0 hh (hall2 q hq h1q)
              rw [h0f] at this; cases this
            · have : q = 0 ∨ q = 1 := by omega
              rcases this with rfl | rfl
              · rw [h0f] at hh; cases hh
              · rw [hj] at hh; cases hh
          · exact hh
        obtain ⟨rc0, hrc0, hloc0, henv0, hheap0, henv1, hheap1⟩ := hS.recd ho0
        have hw0 : wants ops.toList rc0.env o0 = some true := by unfold wants; rw [hg0]
        have hk0 : kindOf P o0.op = .write := by rw [hop0]; rfl
        have hloc0' : rc0.t = 3 ∧ ∀ K2, lstepD P call rc0.env rc0.L o0 K2 = K2 rc0.v rc0.L' := by
          rcases hloc0 with ⟨_, q1, _⟩ | ⟨_, _, q1, _⟩ | ⟨_, _, q1, _⟩ | ⟨q1, _, _, q2⟩
          · rw [hw0] at q1; cases q1
          · rw [hk0] at q1; cases q1
          · rw [hk0] at q1; cases q1
          · exact ⟨q1, q2⟩
        have hp0 : p = 0 := by
          rcases Nat.eq_zero_or_pos p with hh | hh
          · exact hh
          · have := w1 0 rc0 hh hrc0 hloc0'.1
            rw [h0f] at this; cases this
        subst hp0
        rw [hheap0] at hr ht
        have env_nil : ∀ {env : Env} {o : Oper} {t : TypeId} {x y : Value} {K2 : Value → LHeap → R} {H : LHeap}, o.op = .makeSlice t (.const x) (.const y) → lstepD P call env H o K2 = lop P [] H o K2 := fun {env o t x y K2 H} hop => by
          unfold lstepD
          rw [hop]
          simp only
          exact lop_congr (fun z hz => by rw [hop] at hz; simp [Op.operands] at hz; rcases hz with rfl | rfl <;> rfl) K2
        obtain ⟨cs0, cc0, e0, n0, c0, v0, l0, z0, vr0, on0, run0⟩ := make_facts (o := o0) hop0 (fun K2 => by rw [← env_nil hop0]; exact hloc0'.2 K2)
        obtain ⟨cs1, cc1, e1, n1, c1, v1', l1, z1, vr1, on1, run1⟩ := make_facts (o := o) hop1 (fun K2 => by rw [← env_nil hop1]; exact h5 K2)
        have hL1 : rc.L = rc0.L' := by rw [← hheap]; exact hheap1
        have er0 : ∀ (b : Act), ER m ([] : Env) b.tmps := fun b t v hv => by cases hv
        refine ⟨fun _ _ => trivial, ?_⟩
        rw [Oper.semAt_eq _ _ _ (lop_no_defer (K := fun v L => some (.ret v L)) (env := []) (L := rc.L) (r := .ret rc.v rc.L') (by rw [← env_nil (env := rc.env) hop1]; exact h5 _)), run1 m w a (er0 a)]
        rw [Oper.uponIn_value]
        -- now the first one
        cases fuel with
        | zero =>
          exfalso
          have hz : 0 < (listed.setIfInBounds 1 true).toList.count false := by
            have : (listed.setIfInBounds 1 true)[0]? = some false := (listed_set_false hjl).2 ⟨by omega, h0f⟩
            exact List.count_pos_iff.2 (by rw [← Array.mem_def]; exact Array.mem_of_getElem? this)
          omega
        | succ fuel =>
          have h0s : 0 < ops.size := by omega
          refine ⟨fun hnil => ?_, fun q hq => ?_⟩
          · exfalso
            have : 0 ∈ Region.ready .any ops (listed.setIfInBounds 1 true) := by
              rw [mem_ready]
              refine ⟨?_, o0, ho0, fun e he hbd => ?_⟩
              · have := (listed_set_false (k := 0) hjl).2 ⟨by omega, h0f⟩
                have hsz0 : 0 < (listed.setIfInBounds 1 true).size := by simp; omega
                rw [Array.getElem?_eq_getElem hsz0] at this
                injection this with this
                simp [Array.getD, this]
                omega
              · exact absurd (hS.back ho0 he hbd) (by omega)
            rw [hnil] at this; cases this
          · obtain ⟨k1, oq, k2, k3⟩ := mem_ready.1 hq
            have hqs := (Array.getElem?_eq_some_iff.1 k2).1
            have hq0 : q = 0 := by
              have hlq := getD_true (by simp; rw [hI.sz]; exact hqs) k1
              rw [listed_set_false hjl] at hlq
              rcases Nat.lt_or_ge 1 q with h1q | h1q
              · exfalso
                have hbq := (hall2 q hqs h1q)
                -- an edge leads to 0
                have deep : ∀ x, x < ops.size → 0 < x → bef ops x 0 = true → ∀ ox, ops[x]? = some ox → (∀ e ∈ ox.after, Region.binds .any e = true → (listed.setIfInBounds 1 true).getD e.on false = true) → False := by
                  intro x hx hx0 hbx ox hox hallx
                  obtain ⟨e, g1, g2, g3⟩ := bef_get (ops := ops.toList) (j := x) (by simpa using hox) hbx
                  have g4 := getD_false (hallx e (by simpa using g1) g2)
                  rw [listed_set hjl] at g4
                  rcases g3 with g3 | g3
                  · rw [g3] at g4
                    rcases g4 with g4 | g4
                    · omega
                    · rw [h0f] at g4; cases g4
                  · rcases g4 with g4 | g4
                    · rw [g4] at g3
                      have : bef ops 1 0 = true := g3
                      unfold bef at this
                      rw [hb1] at this
                      simp [tbit_eq] at this
                    · have := hI.down _ 0 g4 g3
                      rw [h0f] at this; cases this
                exact deep q hqs (by omega) hbq oq k2 k3
              · have : q ≠ 1 := hlq.1
                omega
            subst hq0
            rw [ho0] at k2; injection k2 with k2; subst k2
            unfold wpOpIn
            rw [ho0]
            simp only
            rw [if_pos (by unfold Region.wanted; rw [hg0])]
            refine ⟨fun _ _ => trivial, ?_⟩
            rw [Oper.semAt_eq _ _ _ (lop_no_defer (K := fun v L => some (.ret v L)) (env := []) (L := rc0.L) (r := .ret rc0.v rc0.L') (by rw [← env_nil (env := rc0.env) hop0]; exact hloc0'.2 _)), run0 m _ _ (er0 _)]
            rw [Oper.uponIn_value]
            obtain ⟨m2, mm0, mm1, rep2, tr2⟩ := hr.pair (w' := { w with heap := (w.heap.push (.cells cc1 e1)).push (.cells cc0 e0) }) vr0 vr1 on0 on1 rfl rfl rfl rfl
            have hdl0 : d0 < N := hdst 0 o0 ho0 d0 hd0
            have hdl1 : d1 < N := hdst 1 o ho d1 hd1
            have hcnt2 : ((listed.setIfInBounds 1 true).setIfInBounds 0 true).toList.count false ≤ fuel := by
              have hjl' : 0 < (listed.setIfInBounds 1 true).toList.length := by simp; omega
              have e1 : ((listed.setIfInBounds 1 true).setIfInBounds 0 true).toList = (listed.setIfInBounds 1 true).toList.set 0 true := by simp
              have e2 : (listed.setIfInBounds 1 true).toList[0] = false := by
                have := (listed_set_false (k := 0) hjl).2 ⟨by omega, h0f⟩
                have hsz0 : 0 < (listed.setIfInBounds 1 true).size := by simp; omega
                rw [Array.getElem?_eq_getElem hsz0] at this
                injection this with this
              have h0 : 0 < (listed.setIfInBounds 1 true).toList.count false := List.count_pos_iff.2 (by rw [← e2]; exact List.getElem_mem _)
              have e3 := List.count_set (a := true) (b := false) hjl'
              rw [e2] at e3
              rw [e1, e3]
              have e4 : (if ((false : Bool) == false) = true then 1 else 0) = 1 := rfl
              have e5 : (if ((true : Bool) == false) = true then 1 else 0) = 0 := rfl
              omega
            refine ihS fuel (by omega) _ _ _ ?_ hcnt2
            have hsz1 : 0 < (listed.setIfInBounds 1 true).size := by simp; omega
            have ls : ∀ k, ((listed.setIfInBounds 1 true).setIfInBounds 0 true)[k]? = some true ↔ (k = 0 ∨ k = 1) := fun k => by
              rw [listed_set hsz1, listed_set hjl]
              constructor
              · rintro (h | h | h)
                · exact .inl h
                · exact .inr h
                · have := (Array.getElem?_eq_some_iff.1 h).1
                  rw [hfalse k (by rw [← hI.sz]; exact this)] at h; cases h
              · rintro (h | h)
                · exact .inl h
                · exact .inr (.inl h)
            have lf : ∀ k, k < ops.size → 1 < k → ((listed.setIfInBounds 1 true).setIfInBounds 0 true)[k]? = some false := fun k hk h1k => by
              rw [listed_set_false hsz1, listed_set_false hjl]
              exact ⟨by omega, by omega, hfalse k hk⟩
            have hh2 : heapAt tr L' 2 = rc0.L ++ [.cells cs0 e0 false 0] ++ [.cells cs1 e1 false 0] := by
              have hx : heapAt tr L' (1 + 1) = rc.L' := hheap2
              rw [show (2 : Nat) = 1 + 1 from rfl, hx, l1, hL1, l0]
            have hv0 : VR m2 rc0.v (.slice (some ⟨(w.heap.push (.cells cc1 e1)).size, 0, none⟩) n0 c0) := by
              rw [v0]
              have := VR.slice (m := m2) (a := ⟨rc0.L.length, 0, none⟩) (n := n0) (c := c0) mm0 z0
              simpa [Info.at] using this
            have hv1 : VR m2 rc.v (.slice (some ⟨w.heap.size, 0, none⟩) n1 c1) := by
              rw [v1', hL1, l0]
              have := VR.slice (m := m2) (a := ⟨rc0.L.length + 1, 0, none⟩) (n := n1) (c := c1) mm1 z1
              simpa [Info.at] using this
            have tm : ∀ t, t ≠ d0 → t ≠ d1 → ((a.put o.dst (.slice (some ⟨w.heap.size, 0, none⟩) n1 c1)).put o0.dst (.slice (some ⟨(w.heap.push (.cells cc1 e1)).size, 0, none⟩) n0 c0)).tmps[t]? = a.tmps[t]? := fun t h0 h1 => by
              rw [hd0, hd1]
              simp only [Act.put]
              rw [Array.getElem?_setIfInBounds_ne (fun e => h0 e.symm), Array.getElem?_setIfInBounds_ne (fun e => h1 e.symm)]
            have tm0 : ((a.put o.dst (.slice (some ⟨w.heap.size, 0, none⟩) n1 c1)).put o0.dst (.slice (some ⟨(w.heap.push (.cells cc1 e1)).size, 0, none⟩) n0 c0)).tmps[d0]? = some (.slice (some ⟨(w.heap.push (.cells cc1 e1)).size, 0, none⟩) n0 c0) := by
              rw [hd0]
              simp only [Act.put]
              rw [Array.getElem?_setIfInBounds, if_pos rfl, if_pos (by
                rw [hd1]
                simp only [Array.size_setIfInBounds]
                rw [hI.size]; exact hdl0)]
            have tm1 : ((a.put o.dst (.slice (some ⟨w.heap.size, 0, none⟩) n1 c1)).put o0.dst (.slice (some ⟨(w.heap.push (.cells cc1 e1)).size, 0, none⟩) n0 c0)).tmps[d1]? = some (.slice (some ⟨w.heap.size, 0, none⟩) n1 c1) := by
              rw [hd0, hd1]
              simp only [Act.put]
              rw [Array.getElem?_setIfInBounds_ne hdd, Array.getElem?_setIfInBounds, if_pos rfl, if_pos (by rw [hI.size]; exact hdl1)]
            refine ⟨by simpa using hI.sz, fun k i hk hb => ?_, ⟨m2, 2, by omega, fun q rq k1 k2 k3 => (ls q).2 (by omega), fun q rq k1 k2 k3 => lf q (by have := (List.getElem?_eq_some_iff.1 k2).1; rw [hS.len] at this; exact this) (by omega), by rw [hh2]; exact rep2, by rw [hh2]; exact ht.trans tr2, fun t i rci oi k1 k2 k3 k4 k5 => ?_, fun t k1 v hv2 => ?_⟩, by rw [put_defers, put_defers]; exact hI.defers, by rw [put_size, put_size]; exact hI.size⟩
            · rw [ls] at hk ⊢
              exfalso
              rcases hk with rfl | rfl
              · have : bef ops 0 i = true := hb
                unfold bef at this
                rw [hb0] at this
                simp [tbit_eq] at this
              · have : bef ops 1 i = true := hb
                unfold bef at this
                rw [hb1] at this
                simp [tbit_eq] at this
            · rw [ls] at k3
              rcases k3 with rfl | rfl
              · rw [hrc0] at k1; injection k1 with k1; subst k1
                rw [ho0] at k2; injection k2 with k2; subst k2
                rw [hd0] at k4; injection k4 with k4; subst k4
                exact ⟨_, tm0, hv0⟩
              · rw [hrc] at k1; injection k1 with k1; subst k1
                rw [ho] at k2; injection k2 with k2; subst k2
                rw [hd1] at k4; injection k4 with k4; subst k4
                exact ⟨_, tm1, hv1⟩
            · have hn0 : t ≠ d0 := fun e => k1 0 o0 ho0 ((ls 0).2 (.inl rfl)) (by rw [hd0, e])
              have hn1 : t ≠ d1 := fun e => k1 1 o ho ((ls 1).2 (.inr rfl)) (by rw [hd1, e])
              rw [tm t hn0 hn1]
              obtain ⟨v', y1, y2⟩ := v2 t (fun k o' z2 z3 => by
                have := (Array.getElem?_eq_some_iff.1 z2).1
                rw [hfalse k this] at z3; cases z3) v hv2
              exact ⟨v', y1, y2.mono tr2.ext⟩
      have earlier : ∀ q rq, q < j → tr[q]? = some rq → rq.t = 3 → listed[q]? = some true := fun q rq hq g1 g2 => by
        have hoq : ∃ oq, ops[q]? = some oq := ⟨ops[q], by simp⟩
        obtain ⟨oq, hoq⟩ := hoq
        rcases (hS.trc.pairs q j rq rc oq o hq g1 hrc (by simpa using hoq) (by simpa using ho)).1 g2 h2 with this | ⟨k1, k2⟩
        · exact hdeps q (by show tbit ((befores ops.toList []).getD j 0) q = true; simpa using this)
        · rcases listed_cases (listed := listed) (k := q) (by rw [hI.sz]; omega) with hh | hh
          · exact hh
          · exfalso
            have : q = 0 := by omega
            subst this
            exact hsw ⟨k1, by omega, hh⟩
      have hsame := hS.heap_same (j - p) p (by omega) fun q rq g1 g2 g3 g4 => by
        have k1 := earlier q rq (by omega) g3 g4
        rw [w2 q rq g1 g3 g4] at k1; cases k1
      rw [show p + (j - p) = j by omega, hheap] at hsame
      rw [← hsame] at hr ht
      refine (lstepD_ok hc (env := res rc.env (tmpsOf ops.toList o)) (fun K2 => by rw [lstepD_res]; exact h5 K2) hr hER fun m' w' v' g1 g2 g3 => ?_)
      refine ih _ _ _ (Inv.step hS hI ho hrc hj hdeps (hdst j o ho) (m := m) (p := 0) (p' := j + 1) (by omega) g3.ext (fun q rq k1 k2 k3 => ?_) (fun q rq k1 k2 k3 => ?_) (by rw [hheap2]; exact g2) (by rw [hheap2]; exact ht.trans g3) g1 v1 v2) hcnt'
      · rcases Nat.lt_or_ge q j with h | h
        · exact .inr (earlier q rq h k2 k3)
        · exact .inl (by omega)
      · refine ⟨by omega, w2 q rq (by omega) k2 k3⟩
end
end Go.Rlm
end

section
namespace Go.Rlm
section
variable {P : Program} {m : RMap} {L : LHeap} {w : World}
/-- A range over a function begins: two blocks more. -/
theorem Rep.pushLoop (h : Rep P m L w) {f id : Nat} {env : Env} {lp : Loop} (hl : LoopRel P m f id env .ready lp) :
    Rep P (ins m L.length ⟨w.heap.size + 1, 0, 0, 0⟩) (L ++ [.loop f id env .ready]) ((w.alloc (.deferred (some []))).alloc (.loop lp)) ∧
    Tr m L w (ins m L.length ⟨w.heap.size + 1, 0, 0, 0⟩) (L ++ [.loop f id env .ready]) ((w.alloc (.deferred (some []))).alloc (.loop lp)) := by
  have hext := MExt.ins (m := m) (r := L.length) ⟨w.heap.size + 1, 0, 0, 0⟩ (h.fresh _ (Nat.le_refl _))
  have hheap : ((w.alloc (.deferred (some []))).alloc (.loop lp)).heap = (w.heap.push (.deferred (some []))).push (.loop lp) := rfl
  have hold : ∀ b, b < w.heap.size → ((w.alloc (.deferred (some []))).alloc (.loop lp)).heap[b]? = w.heap[b]? := fun b hb => by
    rw [hheap, Array.getElem?_push, if_neg (by simp; omega), Array.getElem?_push, if_neg (by omega)]
  have hnew : ((w.alloc (.deferred (some []))).alloc (.loop lp)).heap[w.heap.size + 1]? = some (.loop lp) := by
    rw [hheap, Array.getElem?_push, if_pos (by simp)]
  have hins : ∀ r i, r < L.length → ins m L.length ⟨w.heap.size + 1, 0, 0, 0⟩ r = some i → m r = some i := fun r i hr hm => by
    unfold Rlm.ins at hm
    rw [if_neg (by omega)] at hm
    exact hm
  have hself : ins m L.length ⟨w.heap.size + 1, 0, 0, 0⟩ L.length = some ⟨w.heap.size + 1, 0, 0, 0⟩ := by unfold Rlm.ins; rw [if_pos rfl]
  have hget : ∀ (r : Nat) (b : LBlk), (L ++ [LBlk.loop f id env .ready])[r]? = some b → (r < L.length ∧ L[r]? = some b) ∨ (r = L.length ∧ b = .loop f id env .ready) := fun r b hr => by
    rcases Nat.lt_trichotomy r L.length with h1 | h1 | h1
    · rw [List.getElem?_append_left h1] at hr; exact .inl ⟨h1, hr⟩
    · subst h1; rw [List.getElem?_append_right (Nat.le_refl _)] at hr; simp at hr; exact .inr ⟨rfl, hr.symm⟩
    · rw [List.getElem?_eq_none (by simp; omega)] at hr; cases hr
  have hown : ∀ r, own (L ++ [LBlk.loop f id env .ready]) r → r < L.length ∧ own L r := fun r ⟨cs, e, sp, hr⟩ => by
    rcases hget _ _ hr with ⟨g1, g2⟩ | ⟨_, g⟩
    · exact ⟨g1, cs, e, sp, g2⟩
    · cases g
  have hlt : ∀ r i, r < L.length → (∃ o, w.heap[i.blk]? = some o) → m r = some i → i.blk < w.heap.size := fun r i _ ⟨o, ho⟩ _ => (Array.getElem?_eq_some_iff.1 ho).1
  refine ⟨⟨fun r hr => ?_, fun r cs e ro sp hr => ?_, fun r r' i i' h1 h2 hne h3 h4 => ?_, ⟨fun r f' id' env' st' hr => ?_, fun r r' f1 id1 env1 st1 f2 id2 env2 st2 i i' h1 h2 hne h3 h4 => ?_, fun r es ck hr => ?_, fun r r' es ck es' ck' i i' h1 h2 hne h3 h4 => ?_⟩⟩,
    ⟨hext, by simp, by show w.heap.size ≤ ((w.heap.push _).push _).size; simp; omega, rfl, rfl, rfl, fun r i hr hi => ?_, fun b hb _ => hold b hb⟩⟩
  · simp at hr
    unfold Rlm.ins
    rw [if_neg (by omega)]
    exact h.fresh r (by omega)
  · rcases hget _ _ hr with ⟨g1, g2⟩ | ⟨_, g⟩
    · obtain ⟨i, h1, h2⟩ := h.row _ _ _ _ _ g2
      obtain ⟨cp, e', fz, h3⟩ := h.blk_cells g2 h1
      exact ⟨i, hext _ _ h1, h2.heap hext (hold _ (Array.getElem?_eq_some_iff.1 h3).1)⟩
    · cases g
  · obtain ⟨g1, g2⟩ := hown r h1
    obtain ⟨cs, e, ro, sp, h2⟩ := h2
    rcases hget _ _ h2 with ⟨g3, g4⟩ | ⟨_, g⟩
    · exact h.sep r r' i i' g2 ⟨_, _, _, _, g4⟩ hne (hins _ _ g1 h3) (hins _ _ g3 h4)
    · cases g
  · rcases hget _ _ hr with ⟨g1, g2⟩ | ⟨g1, g2⟩
    · obtain ⟨i, lp', h1, h2, h3⟩ := h.loops.row _ _ _ _ _ g2
      exact ⟨i, lp', hext _ _ h1, by rw [hold _ (Array.getElem?_eq_some_iff.1 h2).1]; exact h2, ⟨h3.code, h3.env.mono hext, h3.st⟩⟩
    · subst g1
      injection g2 with e1 e2 e3 e4
      subst e1; subst e2; subst e3; subst e4
      exact ⟨_, lp, hself, hnew, ⟨hl.code, hl.env.mono hext, hl.st⟩⟩
  · rcases hget _ _ h1 with ⟨g1, g2⟩ | ⟨g1, g2⟩ <;> rcases hget _ _ h2 with ⟨g3, g4⟩ | ⟨g3, g4⟩
    · exact h.loops.sep _ _ _ _ _ _ _ _ _ _ _ _ g2 g4 hne (hins _ _ g1 h3) (hins _ _ g3 h4)
    · subst g3
      obtain ⟨lp', k1, _⟩ := h.blk_loop g2 (hins _ _ g1 h3)
      have := (Array.getElem?_eq_some_iff.1 k1).1
      rw [hself] at h4; injection h4 with h4; subst h4
      simp only; omega
    · subst g1
      obtain ⟨lp', k1, _⟩ := h.blk_loop g4 (hins _ _ g3 h4)
      have := (Array.getElem?_eq_some_iff.1 k1).1
      rw [hself] at h3; injection h3 with h3; subst h3
      simp only; omega
    · omega
  · rcases hget _ _ hr with ⟨g1, g2⟩ | ⟨_, g⟩
    · obtain ⟨i, ms, h1, h2, h3⟩ := h.loops.mrow _ _ _ g2
      exact ⟨i, ms, hext _ _ h1, by rw [hold _ (Array.getElem?_eq_some_iff.1 h2).1]; exact h2, h3.mono hext⟩
    · cases g
  · rcases hget _ _ h1 with ⟨g1, g2⟩ | ⟨_, g⟩
    · rcases hget _ _ h2 with ⟨g3, g4⟩ | ⟨_, g⟩
      · exact h.loops.msep _ _ _ _ _ _ _ _ g2 g4 hne (hins _ _ g1 h3) (hins _ _ g3 h4)
      · cases g
    · cases g
  · rcases hr with hr | ⟨b, hb, hr⟩
    · obtain ⟨g1, g2⟩ := hown r hr
      exact .inl ⟨r, i, .inl g2, hins _ _ g1 hi, rfl⟩
    · rcases hget _ _ hr with ⟨g1, g2⟩ | ⟨g1, g2⟩
      · exact .inl ⟨r, i, .inr ⟨_, hb, g2⟩, hins _ _ g1 hi, rfl⟩
      · subst g1
        rw [hself] at hi; injection hi with hi; subst hi
        exact .inr (by simp)
/-- A record turns. -/
theorem Rep.setLoop (h : Rep P m L w) {j f id : Nat} {env : Env} {st : LSt} (hj : L[j]? = some (.loop f id env st)) {i : Info} (hi : m j = some i) (b : LBlk) (lp : Loop)
    (hc : ∀ cs e ro sp, b ≠ .cells cs e ro sp) (hcm : ∀ es ck, b ≠ .map es ck) (hb : ∀ f' id' env' st', b = .loop f' id' env' st' → LoopRel P m f' id' env' st' lp) :
    Rep P m (L.set j b) (w.putObj i.blk (.loop lp)) ∧ Tr m L w m (L.set j b) (w.putObj i.blk (.loop lp)) := by
  have hlt : j < L.length := (List.getElem?_eq_some_iff.1 hj).1
  obtain ⟨lp0, hheap, hrel0⟩ := h.blk_loop hj hi
  have hsz : i.blk < w.heap.size := (Array.getElem?_eq_some_iff.1 hheap).1
  have hget : ∀ (r : Nat) (c : LBlk), (L.set j b)[r]? = some c → (r = j ∧ c = b) ∨ (r ≠ j ∧ L[r]? = some c) := fun r c hr => by
    by_cases hrj : j = r
    · subst hrj; rw [List.getElem?_set_self hlt] at hr; injection hr with hr; exact .inl ⟨rfl, hr.symm⟩
    · rw [List.getElem?_set_ne hrj] at hr; exact .inr ⟨fun e => hrj e.symm, hr⟩
  have hcells : ∀ (r : Nat) (cs : List Value) (e : TypeId) (ro : Bool) (sp : Nat), (L.set j b)[r]? = some (.cells cs e ro sp) → L[r]? = some (.cells cs e ro sp) := fun r cs e ro sp hr => by
    rcases hget _ _ hr with ⟨_, g⟩ | ⟨_, g⟩
    · exact absurd g.symm (hc _ _ _ _)
    · exact g
  have hother : ∀ k, k ≠ i.blk → (w.putObj i.blk (.loop lp)).heap[k]? = w.heap[k]? := fun k hk => World.putObj_heap_other hk
  refine ⟨⟨fun r hr => h.fresh r (by simpa using hr), fun r cs e ro sp hr => ?_, fun r r' i1 i2 h1 h2 hne h3 h4 => ?_, ⟨fun r f' id' env' st' hr => ?_, fun r r' f1 id1 env1 st1 f2 id2 env2 st2 i1 i2 h1 h2 hne h3 h4 => ?_, fun r es ck hr => ?_, fun r r' es ck es' ck' i1 i2 h1 h2 hne h3 h4 => ?_⟩⟩,
    ⟨.refl m, by simp, by simp, rfl, rfl, rfl, fun r i' hr hi' => ?_, fun k hk hn => hother k fun e => hn j i (.inr ⟨_, rfl, hj⟩) hi e.symm⟩⟩
  · have hr := hcells _ _ _ _ _ hr
    obtain ⟨i', g1, g2⟩ := h.row _ _ _ _ _ hr
    obtain ⟨cp, e', fz, g3⟩ := h.blk_cells hr g1
    exact ⟨i', g1, g2.heap (.refl m) (hother _ fun e => by rw [e, hheap] at g3; cases g3)⟩
  · obtain ⟨cs, e, sp, h1⟩ := h1
    obtain ⟨cs', e', ro', sp', h2⟩ := h2
    exact h.sep r r' i1 i2 ⟨_, _, _, hcells _ _ _ _ _ h1⟩ ⟨_, _, _, _, hcells _ _ _ _ _ h2⟩ hne h3 h4
  · rcases hget _ _ hr with ⟨g1, g2⟩ | ⟨g1, g2⟩
    · subst g1
      exact ⟨i, lp, hi, World.putObj_heap_same hsz, hb _ _ _ _ g2.symm⟩
    · obtain ⟨i', lp', k1, k2, k3⟩ := h.loops.row _ _ _ _ _ g2
      exact ⟨i', lp', k1, by rw [hother _ (h.loops.sep _ _ _ _ _ _ _ _ _ _ _ _ g2 hj g1 k1 hi)]; exact k2, k3⟩
  · have key : ∀ (r f' id' : Nat) (env' : Env) (st' : LSt), (L.set j b)[r]? = some (.loop f' id' env' st') → ∃ f3 id3 env3 st3, L[r]? = some (.loop f3 id3 env3 st3) := fun r f' id' env' st' hr => by
      rcases hget _ _ hr with ⟨g1, _⟩ | ⟨_, g2⟩
      · subst g1; exact ⟨_, _, _, _, hj⟩
      · exact ⟨_, _, _, _, g2⟩
    obtain ⟨_, _, _, _, k1⟩ := key _ _ _ _ _ h1
    obtain ⟨_, _, _, _, k2⟩ := key _ _ _ _ _ h2
    exact h.loops.sep _ _ _ _ _ _ _ _ _ _ _ _ k1 k2 hne h3 h4
  · rcases hget _ _ hr with ⟨_, g⟩ | ⟨_, g2⟩
    · exact absurd g.symm (hcm _ _)
    · obtain ⟨i', ms, k1, k2, k3⟩ := h.loops.mrow _ _ _ g2
      exact ⟨i', ms, k1, by rw [hother _ fun e => by rw [e, hheap] at k2; cases k2]; exact k2, k3⟩
  · rcases hget _ _ h1 with ⟨_, g⟩ | ⟨_, g1⟩
    · exact absurd g.symm (hcm _ _)
    · rcases hget _ _ h2 with ⟨_, g⟩ | ⟨_, g2⟩
      · exact absurd g.symm (hcm _ _)
      · exact h.loops.msep _ _ _ _ _ _ _ _ g1 g2 hne h3 h4
  · refine .inl ⟨r, i', ?_, hi', rfl⟩
    rcases hr with ⟨cs, e, sp, hr⟩ | ⟨c, hcA, hr⟩
    · exact .inl ⟨cs, e, sp, hcells _ _ _ _ _ hr⟩
    · rcases hget _ _ hr with ⟨g1, _⟩ | ⟨_, g2⟩
      · subst g1; exact .inr ⟨_, rfl, hj⟩
      · exact .inr ⟨_, hcA, g2⟩
def mark (k : Nat) : Deferred := { target := .collected k, args := #[] }
/-- Deferred calls that are marks of blocks without calls. -/
def DOk (w : World) (B : Nat) (ds : List Deferred) : Prop := ∃ ks : List Nat, ds = ks.map mark ∧ ks.Nodup ∧ ∀ k ∈ ks, B ≤ k ∧ w.heap[k]? = some (.deferred (some []))
theorem DOk.nil {B : Nat} : DOk w B [] := ⟨[], rfl, List.nodup_nil, fun _ h => by cases h⟩
theorem Rep.not_mine (h : Rep P m L w) {k : Nat} {x : Option (List Deferred)} (hk : w.heap[k]? = some (.deferred x)) : ∀ r i, mine L r → m r = some i → i.blk ≠ k := fun r i hr hi e => by
  rcases h.blk_mine hr hi with ⟨_, _, _, g⟩ | ⟨_, ho, g⟩
  · rw [e, hk] at g; cases g
  · rw [e, hk] at g; injection g with g; subst g; cases ho
theorem DOk.tr {m' : RMap} {L' : LHeap} {w' : World} {B : Nat} {ds : List Deferred} (h : DOk w B ds) (hr : Rep P m L w) (ht : Tr m L w m' L' w') : DOk w' B ds := by
  obtain ⟨ks, h1, h2, h3⟩ := h
  refine ⟨ks, h1, h2, fun k hk => ?_⟩
  obtain ⟨g1, g2⟩ := h3 k hk
  exact ⟨g1, by rw [ht.frame k (Array.getElem?_eq_some_iff.1 g2).1 (hr.not_mine g2)]; exact g2⟩
theorem DOk.same {w' : World} {B : Nat} {ds : List Deferred} (h : DOk w B ds) (hw : ∀ k, k < w.heap.size → w'.heap[k]? = w.heap[k]?) : DOk w' B ds := by
  obtain ⟨ks, h1, h2, h3⟩ := h
  refine ⟨ks, h1, h2, fun k hk => ?_⟩
  obtain ⟨g1, g2⟩ := h3 k hk
  exact ⟨g1, by rw [hw k (Array.getElem?_eq_some_iff.1 g2).1]; exact g2⟩
def shut : List Nat → World → World
  | [], w => w
  | k :: ks, w => shut ks (w.putObj k (.deferred none))
theorem Rep.putDeferred (h : Rep P m L w) {k : Nat} {x : Option (List Deferred)} (hk : w.heap[k]? = some (.deferred x)) (o : Obj) : Rep P m L (w.putObj k o) := by
  have hother : ∀ b, b ≠ k → (w.putObj k o).heap[b]? = w.heap[b]? := fun b hb => World.putObj_heap_other hb
  refine ⟨h.fresh, fun r cs e ro sp hr => ?_, h.sep, h.loops.keep (.refl m) (fun _ _ _ h => h) fun b o hab hb => ?_⟩
  · obtain ⟨i, h1, h2⟩ := h.row _ _ _ _ _ hr
    obtain ⟨cp, e', fz, h3⟩ := h.blk_cells hr h1
    exact ⟨i, h1, h2.heap (.refl m) (hother _ fun e => by rw [e, hk] at h3; cases h3)⟩
  · rw [hother b fun e => by rw [e, hk] at hb; injection hb with hb; subst hb; cases hab]; exact hb
theorem shut_ok : ∀ (ks : List Nat) (w' : World) {m' : RMap} {L' : LHeap}, ks.Nodup → (∀ k ∈ ks, w.heap.size ≤ k ∧ w'.heap[k]? = some (.deferred (some []))) → Rep P m' L' w' → Tr m L w m' L' w' →
    Rep P m' L' (shut ks w') ∧ Tr m L w m' L' (shut ks w')
  | [], w', m', L', _, _, hr, ht => ⟨hr, ht⟩
  | k :: ks, w', m', L', hn, hk, hr, ht => by
    obtain ⟨g1, g2⟩ := hk k (by simp)
    rw [List.nodup_cons] at hn
    refine shut_ok ks _ hn.2 (fun k' hk' => ?_) (hr.putDeferred g2 _) ⟨ht.ext, ht.len, by simpa using ht.size, ht.os, ht.tape, ht.output, ht.foot, fun b hb hno => ?_⟩
    · obtain ⟨k1, k2⟩ := hk k' (by simp [hk'])
      have hne : k' ≠ k := fun e => hn.1 (by rw [← e]; exact hk')
      exact ⟨k1, by rw [World.putObj_heap_other hne]; exact k2⟩
    · rw [World.putObj_heap_other (by omega)]
      exact ht.frame b hb hno
end
end Go.Rlm
end

section
namespace Go.Rlm
def exitOf : LExit → Exit
  | .normal => .normal
  | .exit id => .exit id
  | .ret => .ret
/-- What is asked of the end of a piece of code. -/
structure Aim (P : Program) (m : RMap) (L : LHeap) (w : World) (D : World → List Deferred → Prop) (N : Nat) (r : LR) (K : LK) (Q : Exit → Act → World → Prop) : Prop where
  go : ∀ e env' L' m' w' a', K e env' L' = some r → Rep P m' L' w' → ER m' env' a'.tmps → Tr m L w m' L' w' → D w' a'.defers → a'.tmps.size = N → Q (exitOf e) a' w'
  pan : ∀ v L' m' w' v' a', r = .pan v L' → VR m' v v' → Rep P m' L' w' → Tr m L w m' L' w' → D w' a'.defers → Q (.panic [{ v := v', recovered := false }]) a' w'
theorem Aim.trans {P : Program} {m : RMap} {L : LHeap} {w : World} {D : World → List Deferred → Prop} {N : Nat} {r : LR} {K : LK} {Q : Exit → Act → World → Prop} (h : Aim P m L w D N r K Q)
    {m1 : RMap} {L1 : LHeap} {w1 : World} (ht : Tr m L w m1 L1 w1) : Aim P m1 L1 w1 D N r K Q :=
  ⟨fun e env' L' m' w' a' h1 h2 h3 h4 => h.go e env' L' m' w' a' h1 h2 h3 (ht.trans h4), fun v L' m' w' v' a' h1 h2 h3 h4 => h.pan v L' m' w' v' a' h1 h2 h3 (ht.trans h4)⟩
theorem look_keep {env : Env} {t : Nat} {v : Value} : ∀ {ts : List Nat}, look (keep env ts) t = some v → look env t = some v
  | [], h => by cases h
  | s :: ts, h => by
    unfold keep at h
    split at h
    · rename_i u hu
      simp only [look, hif_eq, cond_eq_ite] at h
      split at h
      · rename_i hb
        rw [Nat.eq_of_beq_eq_true hb] at hu
        rw [hu]; exact h
      · exact look_keep h
    · exact look_keep h
theorem ER.keep {m : RMap} {env : Env} {tmps : Array Value} (h : ER m env tmps) (ts : List Nat) : ER m (Rlm.keep env ts) tmps := fun t v hv => h t v (look_keep hv)
theorem ER.trim {m : RMap} {env : Env} {tmps : Array Value} (h : ER m env tmps) (l : List Nat) : ER m (Rlm.trim l env) tmps := by
  cases l with
  | nil => exact h
  | cons x ts => exact h.keep ts
theorem mem_replicate_false {n k : Nat} : (Array.replicate n false)[k]? ≠ some true := by
  rw [Array.getElem?_replicate]
  split <;> simp
def okR (cf : Code) : Code → Prop
  | .seq a b | .cond _ a b => okR cf a ∧ okR cf b
  | .block _ b | .loop b | .scope b => okR cf b
  | .rangeFunc _ ps a b => rangeIn (firstRegion b) cf = some (ps, a, b)
  | _ => True
theorem okR_nil {cf : Code} : ∀ {c : Code}, rids c = [] → okR cf c := by
  intro c
  induction c with
  | seq a b iha ihb => intro h; simp only [rids, List.append_eq_nil_iff] at h; exact ⟨iha h.1, ihb h.2⟩
  | cond x a b iha ihb => intro h; simp only [rids, List.append_eq_nil_iff] at h; exact ⟨iha h.1, ihb h.2⟩
  | block id b ih => intro h; exact ih h
  | loop b ih => intro h; exact ih h
  | scope b ih => intro h; exact ih h
  | rangeFunc g ps a b => intro h; cases h
  | _ => intro _; trivial
theorem rangeIn_some {id : Nat} : ∀ {c : Code}, id ∈ rids c → (rangeIn id c).isSome = true := by
  intro c
  induction c with
  | seq a b iha ihb =>
    intro h
    simp only [rids, List.mem_append] at h
    unfold rangeIn
    split
    · rfl
    · rename_i hn
      rcases h with h | h
      · have := iha h; rw [hn] at this; cases this
      · exact ihb h
  | cond x a b iha ihb =>
    intro h
    simp only [rids, List.mem_append] at h
    unfold rangeIn
    split
    · rfl
    · rename_i hn
      rcases h with h | h
      · have := iha h; rw [hn] at this; cases this
      · exact ihb h
  | block id b ih => intro h; exact ih h
  | loop b ih => intro h; exact ih h
  | scope b ih => intro h; exact ih h
  | rangeFunc g ps a b =>
    intro h
    simp only [rids, List.mem_singleton] at h
    subst h
    simp [rangeIn]
  | _ => intro h; cases h
theorem rangeIn_none {id : Nat} : ∀ {c : Code}, id ∉ rids c → rangeIn id c = none := by
  intro c
  induction c with
  | seq a b iha ihb => intro h; simp only [rids, List.mem_append, not_or] at h; unfold rangeIn; rw [iha h.1, ihb h.2]
  | cond x a b iha ihb => intro h; simp only [rids, List.mem_append, not_or] at h; unfold rangeIn; rw [iha h.1, ihb h.2]
  | block id b ih => intro h; exact ih h
  | loop b ih => intro h; exact ih h
  | scope b ih => intro h; exact ih h
  | rangeFunc g ps a b =>
    intro h
    simp only [rids, List.mem_singleton] at h
    have : Nat.beq (firstRegion b) id = false := by
      cases hq : Nat.beq (firstRegion b) id with
      | false => rfl
      | true => exact absurd (Nat.eq_of_beq_eq_true hq).symm h
    simp [rangeIn, this]
  | _ => intro _; rfl
theorem distinct_nodup : ∀ {l : List Nat}, distinct l = true → l.Nodup
  | [], _ => List.nodup_nil
  | x :: xs, h => by
    simp only [distinct, Bool.and_eq_true, Bool.not_eq_true', List.any_eq_false] at h
    rw [List.nodup_cons]
    exact ⟨fun hx => by have := h.1 x hx; simp at this, distinct_nodup h.2⟩
theorem okR_sub : ∀ {c cf : Code}, (rids c).Nodup → (∀ id ∈ rids c, rangeIn id cf = rangeIn id c) → okR cf c := by
  intro c cf
  have two : ∀ {a b : Code}, (rids a ++ rids b).Nodup → (∀ id ∈ rids a ++ rids b, rangeIn id cf = (match rangeIn id a with | some x => some x | none => rangeIn id b)) →
      (∀ id ∈ rids a, rangeIn id cf = rangeIn id a) ∧ (∀ id ∈ rids b, rangeIn id cf = rangeIn id b) := fun {a b} hn h => by
    refine ⟨fun id hid => ?_, fun id hid => ?_⟩
    · rw [h id (by simp [hid])]
      have := rangeIn_some hid
      cases hq : rangeIn id a with
      | some x => rfl
      | none => rw [hq] at this; cases this
    · rw [h id (by simp [hid])]
      have hna : id ∉ rids a := fun ha => (List.nodup_append.1 hn).2.2 id ha id hid rfl
      rw [rangeIn_none hna]
  induction c with
  | seq a b iha ihb =>
    intro hn h
    obtain ⟨h1, h2⟩ := two hn h
    exact ⟨iha (List.nodup_append.1 hn).1 h1, ihb (List.nodup_append.1 hn).2.1 h2⟩
  | cond x a b iha ihb =>
    intro hn h
    obtain ⟨h1, h2⟩ := two hn h
    exact ⟨iha (List.nodup_append.1 hn).1 h1, ihb (List.nodup_append.1 hn).2.1 h2⟩
  | block id b ih => intro hn h; exact ih hn h
  | loop b ih => intro hn h; exact ih hn h
  | scope b ih => intro hn h; exact ih hn h
  | rangeFunc g ps a b =>
    intro hn h
    show rangeIn (firstRegion b) cf = some (ps, a, b)
    rw [h (firstRegion b) (by simp [rids])]
    simp [rangeIn]
  | _ => intro _ _; trivial
theorem stepR_scope {P : Program} {b : Frame} {a : Act} {k : List Item} {cs : List Frame} {w : World} {c : Code} : step P (lone (b.atR a (.code (.scope c) :: k)) cs w) = .next (lone (b.atR a (.code c :: .inScope c :: k)) cs w) :=
  step_lone_go (by simp [stepG, stepG.exec, Frame.atR])
theorem stepR_inScope {P : Program} {b : Frame} {a : Act} {k : List Item} {cs : List Frame} {w : World} {c : Code} : step P (lone (b.atR a (.inScope c :: k)) cs w) = .next (lone (b.atR a k) cs w) :=
  step_lone_go (by simp [stepG, stepG.exec, Frame.atR])
theorem wpIn_scope_straight {F : Fence} {n : Nat} {P : Program} {Q : Exit → Act → World → Prop} {a : Act} {w : World} {c : Code} (h : c.wpIn F n P (Exit.noGoto Q) a w) : (Code.scope c).wpIn F n P Q a w := by
  intro b k cs hro hb hr
  have h0 : (lone (b.atR a (.code (.scope c) :: k)) cs w).fenced P F := fenced_calm hb hr rfl
  obtain ⟨e, a₁, w₁, hq, harr⟩ := h b (.inScope c :: k) cs hro hb hr
  cases e with
  | normal => exact ⟨.normal, a₁, w₁, hq, .head h0 stepR_scope (StepsIn.trans harr (.one (fenced_calm hb hr rfl) stepR_inScope))⟩
  | exit id =>
    have hx : exitTo id (.inScope c :: k) = exitTo id k := by simp [exitTo]
    exact ⟨.exit id, a₁, w₁, hq, fun k' hk => .head h0 stepR_scope (harr.1 k' (by rw [hx]; exact hk)),
      fun hr' hk => let ⟨k₁, h1, h2⟩ := harr.2 hr' (by rw [hx]; exact hk); ⟨k₁, h1, .head h0 stepR_scope h2⟩⟩
  | goto l => exact hq.elim
  | ret => exact ⟨_, a₁, w₁, hq, .of_steps (.one h0 stepR_scope) harr⟩
  | panic ch => exact ⟨_, a₁, w₁, hq, .of_steps (.one h0 stepR_scope) harr⟩
  | outgrown => exact ⟨_, a₁, w₁, hq, .of_steps (.one h0 stepR_scope) harr⟩
theorem leftAs_iff : ∀ {es : List LExit} {e : LExit} {K : LExit → R} {r : LR}, leftAs es e K = some r → K e = some r
  | [], _, _, _, h => by cases h
  | x :: xs, e, K, r, h => by
    unfold leftAs lex at h
    cases hx : exitEq e x with
    | true => rw [hx, cond_true] at h; rw [exitEq_eq hx]; exact h
    | false => rw [hx, cond_false] at h; exact leftAs_iff h
section
variable {P : Program} {T : Nat → List Nat} {f : FuncId} {N : Nat} {call : Caller} {n : Nat} {r : LR} {ro : Option Nat} {nn B : Nat} {cf : Code} {D : World → List Deferred → Prop}
theorem region_open (hDt : ∀ {m : RMap} {L : LHeap} {w : World} {m' : RMap} {L' : LHeap} {w' : World} {ds : List Deferred}, D w ds → Rep P m L w → Tr m L w m' L' w' → D w' ds) (hm : P.follows .mixedOrders = true) (hc : CallOk P call) {id : Nat} {ops : Array Oper} {K : LK} {Q : Exit → Act → World → Prop} {env : Env} {L : LHeap} {m : RMap} {w : World} {a : Act}
    (hd : dstOk N ops.toList = true) (ho : ordered ops.toList (befores ops.toList []) = true) (h : ldraw P call ops.toList (befores ops.toList []) (twoMakes ops.toList (befores ops.toList [])) 0 ops.toList env L [] [] (K .normal) = some r)
    (hr : Rep P m L w) (he : ER m env a.tmps) (hN : a.tmps.size = N) (hD : D w a.defers) (hA : Aim P m L w D N r K Q) : (Code.region id ops true).wpIn (fence ro) nn P Q a w := by
  obtain ⟨tr, e', L', h1, h2⟩ := ldraw_trc ops.toList 0 env L [] [] (fun _ _ h => by cases h) h
  have hS : Setting P call ops tr env L e' L' := ⟨h1, ho⟩
  refine wpIn_region_any hm ?_
  refine any_ok (m0 := m) (w0 := w) (ds := a.defers) hc hS hd (fun m' w' a' k1 k2 k3 k4 k5 => hA.go .normal e' L' m' w' a' h2 k1 k3 k2 (by rw [k4]; exact hDt hD hr k2) k5) ops.size _ a _ ?_ ?_
  · refine ⟨by simp, fun j i hj => absurd hj mem_replicate_false, ⟨m, 0, Nat.zero_le _, fun q rc hq => by omega, fun q rc _ hq _ => ?_, ?_, ?_, fun t i rc o _ _ hl => absurd hl mem_replicate_false, fun t _ v hv => he t v hv⟩, rfl, hN⟩
    · have := (List.getElem?_eq_some_iff.1 hq).1
      rw [hS.len] at this
      rw [Array.getElem?_replicate, if_pos this]
    · rw [hS.start.2]; exact hr.drew _
    · rw [hS.start.2]; exact (Tr.refl m L w).drew
  · rw [Array.toList_replicate, List.count_replicate]
    simp
theorem lloop_ok {b : Code}
    (hb : ∀ (K : LK) (Q : Exit → Act → World → Prop) (env : Env) (L : LHeap) (m : RMap) (w : World) (a : Act), lexec P T f N call n b K env L = some r → Rep P m L w → ER m env a.tmps → a.tmps.size = N → D w a.defers → B ≤ w.heap.size → Aim P m L w D N r K Q → b.wpIn (fence ro) nn P Q a w)
    {K : LK} {Q : Exit → Act → World → Prop} {lv : List Nat} : ∀ (k : Nat) (env : Env) (L : LHeap) (m : RMap) (w : World) (a : Act), lloop (lexec P T f N call n b) lv K k env L = some r → Rep P m L w → ER m env a.tmps → a.tmps.size = N → D w a.defers → B ≤ w.heap.size →
      Aim P m L w D N r K Q → Code.roundsIn (fence ro) nn P b Q k a w
  | 0, env, L, m, w, a, h, _, _, _, _, _, _ => by cases h
  | k + 1, env, L, m, w, a, h, hr, he, hN, hD, hB, hA => by
    rw [roundsIn_succ]
    refine hb _ _ env L m w a h hr he hN hD hB ⟨fun e env' L' m' w' a' h1 h2 h3 h4 h5 h6 => ?_, fun v L' m' w' v' a' h1 h2 h3 h4 h5 => hA.pan v L' m' w' v' a' h1 h2 h3 h4 h5⟩
    cases e with
    | normal => exact lloop_ok hb k _ L' m' w' a' h1 h2 (h3.keep lv) h6 h5 (Nat.le_trans hB h4.size) (hA.trans h4)
    | exit id => exact hA.go (.exit id) env' L' m' w' a' h1 h2 h3 h4 h5 h6
    | ret => exact hA.go .ret env' L' m' w' a' h1 h2 h3 h4 h5 h6
/-- **The model follows the machine.** -/
theorem lexec_ok (hDt : ∀ {m : RMap} {L : LHeap} {w : World} {m' : RMap} {L' : LHeap} {w' : World} {ds : List Deferred}, D w ds → Rep P m L w → Tr m L w m' L' w' → D w' ds) (hm : P.follows .mixedOrders = true) (hc : CallOk P call) (hcf : ∃ fn, P.funcs[f]? = some fn ∧ fn.body = some cf ∧ fn.ntmps = N) (c : Code) : okR cf c → (rids c = [] ∨ (ro = none ∧ D = fun w ds => DOk w B ds)) →
    ∀ (K : LK) (Q : Exit → Act → World → Prop) (env : Env) (L : LHeap) (m : RMap) (w : World) (a : Act),
    lexec P T f N call n c K env L = some r → Rep P m L w → ER m env a.tmps → a.tmps.size = N → D w a.defers → B ≤ w.heap.size → Aim P m L w D N r K Q → c.wpIn (fence ro) nn P Q a w := by
  induction c with
  | skip => exact fun _ _ K Q env L m w a h hr he hN hD hB hA => wpIn_skip (hA.go .normal env L m w a h hr he (.refl m L w) hD hN)
  | region id ops draw =>
    intro _ _ K Q env L m w a h hr he hN hD hB hA
    have h : lregion P call N ops draw K (trim (T (CB + id)) env) L = some r := lreg_some (id := id) (l := T (CB + id)) (n := n) (F := fun env L => lregion P call N ops draw K env L) h
    unfold lregion at h
    have he := he.trim (T (CB + id))
    generalize trim (T (CB + id)) env = env at h he
    rw [cond_iff] at h
    obtain ⟨hd, h⟩ := h
    cases draw with
    | true =>
      rw [hif_true, cond_iff] at h
      exact region_open (D := D) hDt hm hc hd h.1 h.2 hr he hN hD hA
    | false =>
      rw [hif_false] at h
      exact wpIn_region_list (lrun_ok hc ops.toList 0 env L m w a h hd hr he hN ⟨fun env' L' m' w' a' k1 k2 k3 k4 k5 k6 => hA.go .normal env' L' m' w' a' k1 k2 k3 k4 (by rw [k5]; exact hDt hD hr k4) k6,
        fun v L' m' w' v' a' k1 k2 k3 k4 k5 => hA.pan v L' m' w' v' a' k1 k2 k3 k4 (by rw [k5]; exact hDt hD hr k4)⟩)
  | seq x y ihx ihy =>
    intro hok hro K Q env L m w a h hr he hN hD hB hA
    have hro1 := hro.imp_left fun h => (List.append_eq_nil_iff.1 h).1
    have hro2 := hro.imp_left fun h => (List.append_eq_nil_iff.1 h).2
    refine wpIn_seq (ihx hok.1 hro1 _ _ env L m w a h hr he hN hD hB ⟨fun e env' L' m' w' a' h1 h2 h3 h4 h5 h6 => ?_, fun v L' m' w' v' a' h1 h2 h3 h4 h5 => hA.pan v L' m' w' v' a' h1 h2 h3 h4 h5⟩)
    cases e with
    | normal => exact ihy hok.2 hro2 K Q env' L' m' w' a' h1 h2 h3 h6 h5 (Nat.le_trans hB h4.size) (hA.trans h4)
    | exit id => exact hA.go (.exit id) env' L' m' w' a' h1 h2 h3 h4 h5 h6
    | ret => exact hA.go .ret env' L' m' w' a' h1 h2 h3 h4 h5 h6
  | cond x c1 c2 ih1 ih2 =>
    intro hok hro K Q env L m w a h hr he hN hD hB hA
    have hro1 := hro.imp_left fun h => (List.append_eq_nil_iff.1 h).1
    have hro2 := hro.imp_left fun h => (List.append_eq_nil_iff.1 h).2
    have h : (ev env x fun v => match v with
      | .bool t => lif t (lexec P T f N call n c1 K env L) (lexec P T f N call n c2 K env L)
      | _ => none) = some r := h
    rw [ev_eq, obind_iff] at h
    obtain ⟨v, h1, h2⟩ := h
    split at h2
    case h_2 => cases h2
    have hv := (he.eval h1).of_bool
    rw [lif_iff] at h2
    rcases h2 with ⟨rfl, h2⟩ | ⟨rfl, h2⟩
    · exact wpIn_cond_true hv (ih1 hok.1 hro1 K Q env L m w a h2 hr he hN hD hB hA)
    · exact wpIn_cond_false hv (ih2 hok.2 hro2 K Q env L m w a h2 hr he hN hD hB hA)
  | block id b ih =>
    intro hok hro K Q env L m w a h hr he hN hD hB hA
    refine wpIn_block (ih hok hro _ _ env L m w a h hr he hN hD hB ⟨fun e env' L' m' w' a' h1 h2 h3 h4 h5 h6 => ?_, fun v L' m' w' v' a' h1 h2 h3 h4 h5 => hA.pan v L' m' w' v' a' h1 h2 h3 h4 h5⟩)
    cases e with
    | normal => exact hA.go .normal env' L' m' w' a' h1 h2 h3 h4 h5 h6
    | exit id' =>
      simp only [exitOf, Exit.inBlock]
      have h1 : (hif (Nat.beq id' id) (K .normal env' L') (K (.exit id') env' L')) = some r := h1
      split
      · rename_i hid
        rw [hid, Nat.beq_refl, hif_true] at h1
        exact hA.go .normal env' L' m' w' a' h1 h2 h3 h4 h5 h6
      · rename_i hid
        have : Nat.beq id' id = false := by
          cases hq : Nat.beq id' id with
          | false => rfl
          | true => exact absurd (Nat.eq_of_beq_eq_true hq) hid
        rw [this, hif_false] at h1
        exact hA.go (.exit id') env' L' m' w' a' h1 h2 h3 h4 h5 h6
    | ret => exact hA.go .ret env' L' m' w' a' h1 h2 h3 h4 h5 h6
  | loop b ih =>
    intro hok hro K Q env L m w a h hr he hN hD hB hA
    exact wpIn_loop_rounds n (lloop_ok (ih hok hro) n _ L m w a h hr (he.keep _) hN hD hB hA)
  | rangeFunc g ps x b _ _ =>
    intro hok hro K Q env L m w a h hr he hN hD hB hA
    have hro : ro = none ∧ D = fun w ds => DOk w B ds := by
      rcases hro with h | h
      · cases h
      · exact h
    obtain ⟨hro, hDD⟩ := hro
    subst hro
    subst hDD
    have h : (ev env g fun gv => lbindR (lappF call gv [.func (.yield L.length) #[] #[]] (L ++ [.loop f (firstRegion b) (keep env (T (firstRegion b))) .ready])) fun _ L2 =>
      lend L.length L2 (fun L3 => K .normal env L3) (fun e L3 => leftAs (exitsOnce (exitsOf b [])) e fun e => K e env L3)) = some r := h
    rw [ev_eq, obind_iff] at h
    obtain ⟨gv, h1, h⟩ := h
    have hgv := he.eval h1
    unfold lappF at h
    split at h
    case h_2 => cases h
    rename_i gf az bs
    cases hgb : Nat.blt gf YB with
    | false => rw [hgb] at h; cases h
    | true =>
    rw [hgb, hif_true] at h
    have hgy : gf < YB := by simpa using hgb
    obtain ⟨as', bs', hfv, has, hbs⟩ := hgv.of_func
    obtain ⟨fn, g1, g2, g3⟩ := hcf
    refine wpIn_rangeFunc fun fn' _ => ?_
    generalize hlp : ({ state := .ready, pending := none, fn := fn', tmps := a.tmps, params := ps, assign := x, body := b, defers := w.heap.size } : Loop) = lp
    have hrel : LoopRel P m f (firstRegion b) (keep env (T (firstRegion b))) .ready lp := by
      subst hlp
      exact ⟨⟨fn, cf, g1, g2, hok, by show a.tmps.size = fn.ntmps; rw [hN, g3]⟩, he.keep _, rfl, rfl⟩
    obtain ⟨hr1, ht1⟩ := hr.pushLoop hrel
    have hm1 : ins m L.length ⟨w.heap.size + 1, 0, 0, 0⟩ L.length = some ⟨w.heap.size + 1, 0, 0, 0⟩ := by unfold Rlm.ins; rw [if_pos rfl]
    have hD1 : DOk ((w.alloc (.deferred (some []))).alloc (.loop lp)) B (mark w.heap.size :: a.defers) := by
      obtain ⟨ks, d1, d2, d3⟩ := hD
      have hheap : ((w.alloc (.deferred (some []))).alloc (.loop lp)).heap = (w.heap.push (.deferred (some []))).push (.loop lp) := rfl
      refine ⟨w.heap.size :: ks, by rw [d1]; rfl, List.nodup_cons.2 ⟨fun hk => ?_, d2⟩, fun k hk => ?_⟩
      · have := (Array.getElem?_eq_some_iff.1 (d3 _ hk).2).1
        omega
      · rcases List.mem_cons.1 hk with rfl | hk
        · exact ⟨hB, by rw [hheap, Array.getElem?_push, if_neg (by simp), Array.getElem?_push, if_pos rfl]⟩
        · obtain ⟨k1, k2⟩ := d3 k hk
          have := (Array.getElem?_eq_some_iff.1 k2).1
          exact ⟨k1, by rw [hheap, Array.getElem?_push, if_neg (by simp; omega), Array.getElem?_push, if_neg (by omega)]; exact k2⟩
    have hargs : VRs (ins m L.length ⟨w.heap.size + 1, 0, 0, 0⟩) (az.toList ++ [.func (.yield L.length) #[] #[]] ++ bs.toList) (as'.toList ++ [.func (.yield (w.heap.size + 1)) #[] #[]] ++ bs'.toList) :=
      ((has.mono ht1.ext).append (.cons (.yield hm1) .nil)).append (hbs.mono ht1.ext)
    cases hcall : call gf (az.toList ++ [.func (.yield L.length) #[] #[]] ++ bs.toList) (L ++ [.loop f (firstRegion b) (keep env (T (firstRegion b))) .ready]) with
    | none => rw [hcall] at h; cases h
    | some r1 =>
      rw [hcall] at h
      have hent := hc.enters gf _ _ r1 hgy hcall ⟨as'.toList ++ [.func (.yield (w.heap.size + 1)) #[] #[]] ++ bs'.toList⟩ ((w.alloc (.deferred (some []))).alloc (.loop lp))
      refine ⟨w.heap.size + 1, [mark w.heap.size], (w.alloc (.deferred (some []))).alloc (.loop lp), { target := .fn (.func gf) bs', args := as' ++ #[.func (.yield (w.heap.size + 1)) #[] #[]] },
        (w.alloc (.deferred (some []))).alloc (.loop lp), gf, ⟨as'.toList ++ [.func (.yield (w.heap.size + 1)) #[] #[]] ++ bs'.toList⟩, (w.alloc (.deferred (some []))).alloc (.loop lp), ?_, ?_, fun _ _ => trivial, ?_, fun h => (by cases h), ?_⟩
      · subst hlp
        exact run_enterLoop_outer fn' a.tmps ps x b
      · have e : (#[Operand.const (.func (.yield (w.heap.size + 1)) #[] #[])] : Array Operand).map a.eval = #[.func (.yield (w.heap.size + 1)) #[] #[]] := by simp [Act.eval]
        simp only [resolve, rangeCall, e, hfv, Deferred.ofValue, Sem.run_pure]
      · have e : (as' ++ #[.func (.yield (w.heap.size + 1)) #[] #[]] ++ bs' : Array Value) = ⟨as'.toList ++ [.func (.yield (w.heap.size + 1)) #[] #[]] ++ bs'.toList⟩ := by apply Array.ext'; simp
        simp only [invoke, e]
        exact hent
      · refine (callsW (hc.calls gf _ _ r1 hgy hcall _ _ _ hr1 hargs)).mono fun e w2 hE => ?_
        cases r1 with
        | pan v L2 => cases h
        | ret v L2 =>
          obtain ⟨m2, v', rfl, _, hr2, ht2⟩ := hE
          simp only [lbindR_ret] at h
          have hi2 := ht2.ext _ _ hm1
          have hback : ∀ (lp2 : Loop), Rep P m2 (L2.set L.length .dead) (w2.putObj (w.heap.size + 1) (.loop lp2)) → Tr m2 L2 w2 m2 (L2.set L.length .dead) (w2.putObj (w.heap.size + 1) (.loop lp2)) → ∀ e, K e env (L2.set L.length .dead) = some r →
              Q (exitOf e) { a with defers := [mark w.heap.size] ++ a.defers } (w2.putObj (w.heap.size + 1) (.loop lp2)) := fun lp2 hr3 ht3 e hK =>
            hA.go e env _ m2 _ _ hK hr3 (he.mono (ht1.ext.trans ht2.ext)) ((ht1.trans ht2).trans ht3) ((hD1.tr hr1 ht2).tr hr2 ht3) hN
          unfold lend at h
          split at h
          · rename_i f2 id2 env2 hj
            obtain ⟨lp2, k1, k2⟩ := hr2.blk_loop hj hi2
            have hst : lp2.state = .ready ∧ lp2.pending = none := k2.st
            obtain ⟨hr3, ht3⟩ := hr2.setLoop hj hi2 .dead { lp2 with state := .exhausted } (fun _ _ _ _ h => by cases h) (fun _ _ h => by cases h) (fun _ _ _ _ h => by cases h)
            refine ⟨none, _, by rw [← hst.2]; exact run_endLoop k1 (by rw [hst.1]; intro h; cases h), ?_⟩
            exact hback _ hr3 ht3 .normal h
          · rename_i f2 id2 env2 e2 hj
            obtain ⟨lp2, k1, k2⟩ := hr2.blk_loop hj hi2
            have hst : lp2.state = .done ∧ lp2.pending = some (codeOf e2) := k2.st
            obtain ⟨hr3, ht3⟩ := hr2.setLoop hj hi2 .dead { lp2 with state := .exhausted } (fun _ _ _ _ h => by cases h) (fun _ _ h => by cases h) (fun _ _ _ _ h => by cases h)
            refine ⟨some (codeOf e2), _, by rw [← hst.2]; exact run_endLoop k1 (by rw [hst.1]; intro h; cases h), ?_⟩
            have hq := hback _ hr3 ht3 e2 (leftAs_iff h)
            cases e2 with
            | normal => exact wpIn_skip hq
            | exit id => exact wpIn_exit hq
            | ret => exact wpIn_ret hq
          · cases h
  | exit id => exact fun _ _ K Q env L m w a h hr he hN hD hB hA => wpIn_exit (hA.go (.exit id) env L m w a h hr he (.refl m L w) hD hN)
  | scope b ih =>
    intro hok hro K Q env L m w a h hr he hN hD hB hA
    refine wpIn_scope_straight (ih hok hro K _ env L m w a h hr he hN hD hB ⟨fun e env' L' m' w' a' h1 h2 h3 h4 h5 h6 => ?_, fun v L' m' w' v' a' h1 h2 h3 h4 h5 => hA.pan v L' m' w' v' a' h1 h2 h3 h4 h5⟩)
    have := hA.go e env' L' m' w' a' h1 h2 h3 h4 h5 h6
    cases e <;> exact this
  | label l => exact fun _ _ K Q env L m w a h hr he hN hD hB hA => wpIn_label (hA.go .normal env L m w a h hr he (.refl m L w) hD hN)
  | goto l => intro _ _ K Q env L m w a h; cases h
  | ret => exact fun _ _ K Q env L m w a h hr he hN hD hB hA => wpIn_ret (hA.go .ret env L m w a h hr he (.refl m L w) hD hN)
  | refuse s => intro _ _ K Q env L m w a h; cases h
end
def resAt (tmps : Array Value) : ResultVar → Sem Value
  | .tmp t => pure (tmps.getD t undef)
  | .cell a t => do loadVar t (← asAddr (tmps.getD a undef))
theorem lresults_ok {P : Program} {env : Env} {L : LHeap} {r : LR} {m : RMap} {w : World} {tmps : Array Value} (hr : Rep P m L w) (he : ER m env tmps) : ∀ (rs : List ResultVar) (K : List Value → R), lresults P env L rs K = some r →
    ∃ vs vs', K vs = some r ∧ VRs m vs vs' ∧ (rs.mapM (resAt tmps)).run P w = .ok vs' w
  | [], K, h => ⟨[], [], h, .nil, by simp⟩
  | .tmp t :: rs, K, h => by
    unfold lresults at h
    rw [ev_eq, obind_iff] at h
    obtain ⟨v, h1, h2⟩ := h
    obtain ⟨v', h3, h4⟩ := he t v h1
    obtain ⟨vs, vs', k1, k2, k3⟩ := lresults_ok hr he rs _ h2
    refine ⟨v :: vs, v' :: vs', k1, .cons h4 k2, ?_⟩
    have : tmps.getD t undef = v' := by simp [Array.getD_eq_getD_getElem?, h3]
    simp [List.mapM_cons, resAt, this, k3]
  | .cell t ty :: rs, K, h => by
    unfold lresults at h
    rw [ev_eq, obind_iff] at h
    obtain ⟨v, h1, h2⟩ := h
    split at h2
    case h_2 => cases h2
    obtain ⟨p, h3, h4⟩ := he t _ h1
    obtain ⟨i, hi, hp⟩ := h4.of_ptr
    obtain ⟨u, k1, _, k3⟩ := loadT_ok h2
    obtain ⟨u', k4, k5⟩ := k3 m w i hr hi
    obtain ⟨vs, vs', k6, k7, k8⟩ := lresults_ok hr he rs _ k1
    refine ⟨u :: vs, u' :: vs', k6, .cons k5 k7, ?_⟩
    have : tmps.getD t undef = p := by simp [Array.getD_eq_getD_getElem?, h3]
    simp [List.mapM_cons, resAt, this, hp, asAddr, k4, k8]
theorem results_eq (fn : Func) (tmps : Array Value) : results fn tmps = fn.results.mapM (resAt tmps) >>= fun vs => Pure.pure (if h : vs.size = 1 then vs[0] else .tuple vs) := by
  unfold results
  congr 2
theorem run_results {P : Program} {fn : Func} {tmps : Array Value} {w : World} {vs : List Value} (h : (fn.results.toList.mapM (resAt tmps)).run P w = .ok vs w) :
    (results fn tmps).run P w = .ok (match vs with | [v] => v | vs => .tuple vs.toArray) w := by
  rw [results_eq, Array.mapM_eq_mapM_toList]
  simp only [Sem.run_bind, Sem.run_map, h, Result.andThen_ok]
  match vs with
  | [] => simp
  | [v] => simp
  | a :: b :: l => simp
theorem look_enum {t : Nat} {v : Value} : ∀ {args : List Value} {i : Nat}, look (enum args i) t = some v → i ≤ t ∧ args[t - i]? = some v
  | [], _, h => by cases h
  | x :: xs, i, h => by
    unfold enum at h
    simp only [look, hif_eq, cond_eq_ite] at h
    split at h
    · rename_i hb
      rw [← Nat.eq_of_beq_eq_true hb, Nat.sub_self]
      exact ⟨Nat.le_refl _, h⟩
    · obtain ⟨h1, h2⟩ := look_enum h
      refine ⟨by omega, ?_⟩
      rw [show t - i = t - (i + 1) + 1 by omega]
      simpa using h2
/-- What is asked of the functions that are not stepped through. -/
structure SpecOk (P : Program) (T : Tab) : Prop where
  there : ∀ f g, T.spec f = some g → f < YB → ∃ fn c, P.funcs[f]? = some fn ∧ fn.body = some c
  calls : ∀ f g, T.spec f = some g → ∀ call, CallOk P call → ∀ args L r, g call args L = some r → ∀ (m : RMap) (w : World) (args' : List Value), Rep P m L w → VRs m args args' →
    Calls P f ⟨args'⟩ w (Ends P m L w r)
theorem SpecOk.none {P : Program} {k : Nat → Nat → List Nat} : SpecOk P ⟨k, fun _ => .none⟩ := ⟨fun _ _ h => (by cases h), fun _ _ h => (by cases h)⟩
theorem enters_any {P : Program} (hn : P.funcs.all (fun fn => !(fn.name == "runtime.NumGoroutine")) = true) {f : Nat} {fn : Func} {c : Code} (hf : P.funcs[f]? = some fn) (hb : fn.body = some c) (args : List Value) (w : World) :
    (callFunc f ⟨args⟩).run P w = .ok (.enter f ⟨args⟩) w := by
  have hname : (fn.name == "runtime.NumGoroutine") = false := by
    have hlt := (Array.getElem?_eq_some_iff.1 hf)
    have := Array.all_eq_true.1 hn f hlt.1
    rw [hlt.2] at this
    simpa using this
  have hname2 : ¬ fn.name = "runtime.NumGoroutine" := by simpa using hname
  simp [callFunc, hf, hname2, hb]
/-- A round's arguments. -/
theorem ER.putAll {m : RMap} : ∀ {ps : List Nat} {vs vs' : List Value} {env : Env} {tmps : Array Value}, ER m env tmps → VRs m vs vs' → (∀ t ∈ ps, t < tmps.size) →
    ER m (Rlm.putAll env ps vs) ((ps.zip vs').foldl (fun tmps (p : Nat × Value) => tmps.setIfInBounds p.1 p.2) tmps) ∧ ((ps.zip vs').foldl (fun tmps (p : Nat × Value) => tmps.setIfInBounds p.1 p.2) tmps).size = tmps.size
  | [], vs, vs', env, tmps, he, hv, hp => by
    have : Rlm.putAll env [] vs = env := by cases vs <;> rfl
    rw [this]; exact ⟨he, rfl⟩
  | t :: ps, [], _, env, tmps, he, .nil, hp => ⟨he, rfl⟩
  | t :: ps, v :: vs, _, env, tmps, he, .cons (v' := v') h hs, hp => by
    have h1 : ER m ((t, v) :: env) (tmps.setIfInBounds t v') := by
      intro q u hu
      simp only [look, cond_eq_ite] at hu
      split at hu
      · rename_i hb
        have := Nat.eq_of_beq_eq_true hb
        subst this
        injection hu with hu
        subst hu
        exact ⟨v', by simp [hp t (by simp)], h⟩
      · rename_i hb
        have hne : t ≠ q := fun e => hb (by rw [e]; exact Nat.beq_refl q)
        obtain ⟨x, g1, g2⟩ := he q u hu
        exact ⟨x, by rw [Array.getElem?_setIfInBounds_ne hne]; exact g1, g2⟩
    obtain ⟨g1, g2⟩ := ER.putAll (ps := ps) h1 hs (fun q hq => by simpa using hp q (by simp [hq]))
    exact ⟨g1, by rw [List.zip_cons_cons, List.foldl_cons, g2]; simp⟩
theorem ready_ok {P : Program} {m : RMap} {L : LHeap} {w : World} {j : Nat} {i : Info} {K : LHeap → R} {r : LR} (hr : Rep P m L w) (hi : m j = some i) (h : lbusy j L K = some r) :
    ∃ L1 w1, (Instr.beginRound i.blk).run P w = .ok () w1 ∧ K L1 = some r ∧ Rep P m L1 w1 ∧ Tr m L w m L1 w1 := by
  unfold lbusy at h
  split at h
  case h_2 => cases h
  rename_i f id env hj
  obtain ⟨lp, k1, k2⟩ := hr.blk_loop hj hi
  obtain ⟨hr3, ht3⟩ := hr.setLoop hj hi (.loop f id env .busy) { lp with state := .busy } (fun _ _ _ _ h => by cases h) (fun _ _ h => by cases h) (fun f' id' env' st' h => by
    injection h with e1 e2 e3 e4
    subst e1; subst e2; subst e3; subst e4
    exact ⟨k2.code, k2.env, rfl⟩)
  exact ⟨_, _, run_beginRound k1 k2.st.1, h, hr3, ht3⟩
theorem leave_ok {P : Program} {m : RMap} {L : LHeap} {w : World} {j : Nat} {i : Info} {e : LExit} {r : LR} (hr : Rep P m L w) (hi : m j = some i) (h : lleave j e L = some r) :
    ∃ b L1 w1, r = .ret (.bool b) L1 ∧ (Instr.endRound i.blk (match e with | .normal => none | e => some (codeOf e))).run P w = .ok (.bool b) w1 ∧ Rep P m L1 w1 ∧ Tr m L w m L1 w1 := by
  unfold lleave at h
  split at h
  case h_2 => cases h
  rename_i f id env hj
  obtain ⟨lp, k1, k2⟩ := hr.blk_loop hj hi
  have key : ∀ (st : LSt) (b : Bool) (jump : Option Code), jump.isNone = b → StRel st { lp with state := if jump.isNone then .ready else .done, pending := jump } → some (LR.ret (.bool b) (L.set j (.loop f id env st))) = some r →
      ∃ b L1 w1, r = .ret (.bool b) L1 ∧ (Instr.endRound i.blk jump).run P w = .ok (.bool b) w1 ∧ Rep P m L1 w1 ∧ Tr m L w m L1 w1 := fun st b jump hj2 hst h => by
    obtain ⟨hr3, ht3⟩ := hr.setLoop hj hi (.loop f id env st) { lp with state := if jump.isNone then .ready else .done, pending := jump } (fun _ _ _ _ h => by cases h) (fun _ _ h => by cases h) (fun f' id' env' st' h => by
      injection h with e1 e2 e3 e4
      subst e1; subst e2; subst e3; subst e4
      exact ⟨k2.code, k2.env, hst⟩)
    injection h with h
    exact ⟨b, _, _, h.symm, by rw [← hj2]; exact run_endRound jump k1, hr3, ht3⟩
  cases e with
  | normal => exact key .ready true none rfl ⟨rfl, rfl⟩ h
  | exit id' => exact key (.left (.exit id')) false (some (.exit id')) rfl ⟨rfl, rfl⟩ h
  | ret => exact key (.left .ret) false (some .ret) rfl ⟨rfl, rfl⟩ h
theorem lround_ok {P : Program} {T : Tab} {call : Caller} {n : Nat} (hm : P.follows .mixedOrders = true) (hc : CallOk P call) {f id j : Nat} {env : Env} {args args' : List Value} {L L' : LHeap} {v : Value}
    (h : lround P T call n f id env j args L = some (.ret v L')) {m : RMap} {w : World} (hr : Rep P m L w) (hv : VRs m args args') {i : Info} (hi : m j = some i) {lp : Loop} (hlp : w.heap[i.blk]? = some (.loop lp))
    (hrel : LoopRel P m f id env .ready lp) (ro : Option Nat) (nn : Nat) :
    ∃ fn tmps assign body, (Instr.yield i.blk ⟨args'⟩).run P w = .ok (.round i.blk fn tmps assign body) w ∧ RoundIn (fence ro) nn P i.blk fn tmps assign body w (Ends P m L w (.ret v L')) := by
  unfold lround at h
  split at h
  case h_2 => cases h
  rename_i fn hf
  split at h
  case h_2 => cases h
  rename_i c hb
  split at h
  case h_2 => cases h
  rename_i ps x b hrange
  rw [cond_iff] at h
  obtain ⟨hl, h⟩ := h
  simp only [Bool.and_eq_true, List.all_eq_true] at hl
  obtain ⟨⟨⟨hlen, hps⟩, hx⟩, hbb⟩ := hl
  have hlen := Nat.eq_of_beq_eq_true hlen
  have hx : rids x = [] := by simpa using hx
  have hbb : rids b = [] := by simpa using hbb
  obtain ⟨fn0, c0, q1, q2, q3, q4⟩ := hrel.code
  rw [hf] at q1; injection q1 with q1; subst q1
  rw [hb] at q2; injection q2 with q2; subst q2
  rw [hrange] at q3; injection q3 with q3; injection q3 with e1 q3; injection q3 with e2 e3
  have hasz : (⟨args'⟩ : Array Value).size = lp.params.size := by
    have := hv.length
    rw [← e1]
    simp; omega
  refine ⟨_, _, _, _, run_yield hlp hasz, ?_⟩
  obtain ⟨hE1, hE2⟩ := hrel.env.putAll (ps := ps.toList) hv (fun t ht => by
    have := hps t ht
    rw [q4]
    simpa using this)
  have hfold : (lp.params.zip ⟨args'⟩).foldl (fun tmps (t, a) => tmps.setIfInBounds t a) lp.tmps = (ps.toList.zip args').foldl (fun tmps (p : Nat × Value) => tmps.setIfInBounds p.1 p.2) lp.tmps := by
    rw [← e1, ← Array.foldl_toList, Array.toList_zip]
  rw [hfold, ← e2, ← e3]
  refine roundIn_of_wpIn (F := fence ro) trivial ?_
  refine lexec_ok (D := fun _ _ => True) (ro := some i.blk) (B := 0) (cf := c) (fun _ _ _ => trivial) hm hc ⟨fn, hf, hb, rfl⟩ x (okR_nil hx) (.inl hx) _ _ _ L m w _ h hr hE1 (by rw [← q4]; exact hE2) trivial (Nat.zero_le _) ⟨fun e env1 L1 m1 w1 a1 k1 k2 k3 k4 _ k6 => ?_, fun v L' m' w' v' a' h1 => by cases h1⟩
  cases e with
  | exit id => cases k1
  | ret => cases k1
  | normal =>
    have hi1 := k4.ext _ _ hi
    obtain ⟨L2, w2, g1, g2, g3, g4⟩ := ready_ok k2 hi1 k1
    refine ⟨w2, g1, ?_⟩
    refine lexec_ok (D := fun _ _ => True) (ro := some i.blk) (B := 0) (cf := c) (fun _ _ _ => trivial) hm hc ⟨fn, hf, hb, rfl⟩ b (okR_nil hbb) (.inl hbb) _ _ _ L2 m1 w2 a1 g2 g3 k3 k6 trivial (Nat.zero_le _) ⟨fun e env3 L3 m3 w3 a3 p1 p2 p3 p4 _ p6 => ?_, fun v L' m' w' v' a' h1 => by cases h1⟩
    have hi3 := p4.ext _ _ hi1
    obtain ⟨bb, L4, w4, s1, s2, s3, s4⟩ := leave_ok p2 hi3 p1
    injection s1 with s1 s5
    have hend : Ends P m L w (.ret v L') (.returned (.bool bb)) w4 := ⟨m3, _, rfl, by rw [s1]; exact .flat1 rfl, by rw [s5]; exact s3, by rw [s5]; exact ((k4.trans g4).trans p4).trans s4⟩
    cases e with
    | normal => exact ⟨_, _, s2, hend⟩
    | exit id => exact ⟨_, _, s2, hend⟩
    | ret => exact ⟨_, _, s2, hend⟩
theorem leaves_marks {P : Program} {fn : Func} {tmps : Array Value} {R : Ending → World → Prop} {u : FrameMode} (hu : u ≠ .run) : ∀ (ks : List Nat) (w : World), ks.Nodup → (∀ k ∈ ks, w.heap[k]? = some (.deferred (some []))) →
    LeavesIn (fence none) 0 P fn tmps R [] u (shut ks w) → LeavesInM (fence none) 0 P fn tmps R (ks.map mark) u w
  | [], w, _, _, h => h
  | k :: ks, w, hn, hk, h => by
    rw [List.nodup_cons] at hn
    refine ⟨hu, .inl ⟨k, _, rfl, run_takeDeferred (hk k (by simp)), ?_⟩⟩
    refine leaves_marks hu ks _ hn.2 (fun k' hk' => ?_) h
    have hne : k' ≠ k := fun e => hn.1 (by rw [← e]; exact hk')
    rw [World.putObj_heap_other hne]
    exact hk k' (by simp [hk'])
theorem lcall_yield {P : Program} {T : Tab} {n j : Nat} {args : List Value} {L : LHeap} : lcall P T (n + 1) (YB + j) args L = lyield P T (lcall P T n) n j args L := by
  unfold lcall
  rw [show Nat.ble YB (YB + j) = true from Nat.ble_eq_true_of_le (Nat.le_add_right _ _), hif_true, Nat.add_sub_cancel_left]
theorem lcall_plain {P : Program} {T : Tab} {n f : Nat} {args : List Value} {L : LHeap} (hf : f < YB) : lcall P T (n + 1) f args L =
    (match T.spec f with
      | some g => g (lcall P T n) args L
      | none =>
        match P.funcs[f]? with
        | some fn =>
          match fn.body with
          | some c => hif (Nat.ble args.length fn.ntmps && distinct (rids c)) (lexec P (T.keep f) f fn.ntmps (lcall P T n) n c (lret P fn) (enum args 0) L) none
          | none => none
        | none => none) := by
  have : Nat.ble YB f = false := by
    cases h : Nat.ble YB f with
    | false => rfl
    | true => have := Nat.le_of_ble_eq_true h; omega
  show hif (Nat.ble YB f) _ _ = _
  rw [this, hif_false]
  rfl
/-- **Calls are followed.** -/
theorem lcall_ok {P : Program} {T : Tab} (hS : SpecOk P T) (hm : P.follows .mixedOrders = true) (hn : P.funcs.all (fun fn => !(fn.name == "runtime.NumGoroutine")) = true) : ∀ n, CallOk P (lcall P T n)
  | 0 => ⟨(fun f args L r _ h => by cases h), (fun f args L r _ h => by cases h), (fun j args L r h => by cases h)⟩
  | n + 1 => by
    have hc := lcall_ok (T := T) hS hm hn n
    refine ⟨fun f args L r hf0 h m w args' hr hv => ?_, fun f args L r hf0 h args' w => ?_, fun j args L r h m w args' i hr hv hi => ?_⟩
    · rw [lcall_plain hf0] at h
      split at h
      · rename_i g hg
        exact hS.calls f g hg _ hc args L r h m w args' hr hv
      split at h
      case h_2 => cases h
      rename_i fn hf
      split at h
      case h_2 => cases h
      rename_i c hb
      rw [cond_iff, Bool.and_eq_true] at h
      obtain ⟨⟨hl, hdis⟩, h⟩ := h
      have hl : args.length ≤ fn.ntmps := Nat.le_of_ble_eq_true hl
      refine (callsIn_wide (n := 0)).1 (callsIn_of_wp_marks (F := fence none) hf hb trivial (lexec_ok (D := fun w' ds => DOk w' w.heap.size ds) (ro := none) (B := w.heap.size) (cf := c) (N := fn.ntmps) (fun h1 h2 h3 => h1.tr h2 h3) hm hc ⟨fn, hf, hb, rfl⟩ c (okR_sub (distinct_nodup hdis) fun _ _ => rfl) (.inr ⟨rfl, rfl⟩) _ _ _ L m w _ h hr
        (fun t v ht => ?_) ?_ .nil (Nat.le_refl _) ⟨fun e env' L' m' w' a' k1 k2 k3 k4 k5 k6 => ?_, fun v L' m' w' v' a' k1 k2 k3 k4 k5 => ?_⟩))
      · obtain ⟨_, h2⟩ := look_enum ht
        obtain ⟨v', h3, h4⟩ := hv.get (j := t) (by simpa using h2)
        have := (List.getElem?_eq_some_iff.1 h3).1
        exact ⟨v', by rw [Array.getElem?_append_left (by simpa using this)]; simpa using h3, h4⟩
      · have := hv.length
        simp; omega
      · have key : lresults P env' L' fn.results.toList (fun vs => match vs with | [v] => some (.ret v L') | vs => some (.ret (.tuple vs.toArray) L')) = some r →
            LeavesInM (fence none) 0 P fn a'.tmps (Ends P m L w r) a'.defers .returning w' := fun h => by
          obtain ⟨ks, d1, d2, d3⟩ := k5
          obtain ⟨s1, s2⟩ := shut_ok ks w' d2 d3 k2 k4
          obtain ⟨vs, vs', g1, g2, g3⟩ := lresults_ok s1 k3 _ _ h
          rw [d1]
          refine leaves_marks (by simp) ks w' d2 (fun k hk => (d3 k hk).2) ⟨_, run_results g3, ?_⟩
          cases g2 with
          | nil => injection g1 with g1; subst g1; exact ⟨m', _, rfl, .tuple .nil, s1, s2⟩
          | cons x xs =>
            cases xs with
            | nil => injection g1 with g1; subst g1; exact ⟨m', _, rfl, x, s1, s2⟩
            | cons y ys => injection g1 with g1; subst g1; exact ⟨m', _, rfl, .tuple (.cons x (.cons y ys)), s1, s2⟩
        cases e with
        | normal => exact key k1
        | exit id => cases k1
        | ret => exact key k1
      · obtain ⟨ks, d1, d2, d3⟩ := k5
        obtain ⟨s1, s2⟩ := shut_ok ks w' d2 d3 k3 k4
        show LeavesInM (fence none) 0 P fn a'.tmps (Ends P m L w r) a'.defers (.panicking _) w'
        rw [d1]
        refine leaves_marks (by simp) ks w' d2 (fun k hk => (d3 k hk).2) ?_
        rw [k1]; exact ⟨m', v', rfl, k2, s1, s2⟩
    · rw [lcall_plain hf0] at h
      split at h
      · rename_i g hg
        obtain ⟨fn, c, hf, hb⟩ := hS.there f g hg hf0
        exact enters_any hn hf hb args'.toList w
      split at h
      case h_2 => cases h
      rename_i fn hf
      split at h
      case h_2 => cases h
      rename_i c hb
      exact enters_any hn hf hb args'.toList w
    · rw [lcall_yield] at h
      unfold lyield at h
      split at h
      case h_2 => cases h
      rename_i f id env hj
      obtain ⟨lp, k1, k2⟩ := hr.blk_loop hj hi
      cases h0 : lround P T (lcall P T n) n f id env j args L with
      | none => rw [h0] at h; cases h
      | some r0 =>
        rw [h0] at h
        cases r0 with
        | pan v L' => cases h
        | ret v L' =>
          simp only [lbindR_ret] at h
          injection h with h
          subst h
          obtain ⟨fn, tmps, assign, body, g1, _⟩ := lround_ok hm hc h0 hr hv hi k1 k2 none 0
          refine ⟨fn, tmps, assign, body, g1, fun ro nn => ?_⟩
          obtain ⟨fn', tmps', assign', body', g3, g4⟩ := lround_ok hm hc h0 hr hv hi k1 k2 ro nn
          rw [g1] at g3
          injection g3 with g3
          injection g3 with _ e1 e2 e3 e4
          subst e1; subst e2; subst e3; subst e4
          exact g4
end Go.Rlm
end

section
namespace Go.Rlm
/-- **From the machine's run to the walk**: no block of the machine's own at the start. -/
theorem law_walk {P : Program} {T : Tab} (hS : SpecOk P T) (hm : P.follows .mixedOrders = true) (hn : P.funcs.all (fun fn => !(fn.name == "runtime.NumGoroutine")) = true)
    {n f : Nat} {args args' : List Value} {L L' : LHeap} {m : RMap} {w : World} {b : Bool} (h : lcall P T n f args L = some (.ret (.bool b) L')) (hr : Rep P m L w) (hv : VRs m args args')
    (ho : ∀ r, ¬ mine L r) : Calls P f ⟨args'⟩ w fun e w' => e = .returned (.bool b) ∧ Go.RowKit.Below w.heap.size w w' := by
  have hf : f < YB := by
    rcases Nat.lt_or_ge f YB with hf | hf
    · exact hf
    · exfalso
      obtain ⟨j, rfl⟩ : ∃ j, f = YB + j := ⟨f - YB, by omega⟩
      cases n with
      | zero => cases h
      | succ n =>
        rw [lcall_yield] at h
        unfold lyield at h
        split at h
        · rename_i g id env hj
          exact ho j (.inr ⟨_, rfl, hj⟩)
        · cases h
  refine ((lcall_ok hS hm hn n).calls f args L _ hf h m w args' hr hv).mono fun e w' he => ?_
  obtain ⟨m', v', h1, h2, h3, h4⟩ := he
  refine ⟨by rw [h1, h2.of_bool], h4.os, h4.tape, h4.output, h4.size, fun k hk => h4.frame k hk fun r i hr => absurd hr (ho r)⟩
/-- Nothing there. -/
theorem Rep.empty {P : Program} {w : World} : Rep P (fun _ => none) [] w :=
  ⟨fun _ _ => rfl, fun r cs e ro sp h => by simp at h, fun r r' i i' h => by obtain ⟨cs, e, sp, h⟩ := h; simp at h, ⟨fun r f id env st h => by simp at h, fun r r' f id env st f' id' env' st' i i' h => by simp at h, fun r es ck h => by simp at h, fun r r' es ck es' ck' i i' h => by simp at h⟩⟩
theorem own_nil {r : Nat} : ¬ mine [] r := fun h => by
  rcases h with ⟨cs, e, sp, h⟩ | ⟨b, _, h⟩ <;> simp at h
/-- Does the run tell true? -/
def told (r : R) : Bool :=
  match r with
  | some (.ret (.bool b) _) => b
  | _ => false
end Go.Rlm
end

section
namespace Go.Rlm
theorem lapp_plain {call : Caller} {g : Nat} {a b : Array Value} {args : List Value} {L : LHeap} (h : Nat.blt g YB = true) : lapp call (.func (.func g) a b) args L = call g (a.toList ++ args ++ b.toList) L := by
  unfold lapp
  simp only [h, hif_true]
end Go.Rlm
end

section
namespace Go.Rlm
theorem snoc_ind {α : Type} {p : List α → Prop} (h0 : p []) (h1 : ∀ a x, p a → p (a ++ [x])) (a : List α) : p a := by
  have : ∀ n (a : List α), a.length = n → p a := by
    intro n
    induction n with
    | zero => intro a h; rw [List.eq_nil_of_length_eq_zero h]; exact h0
    | succ n ih =>
      intro a h
      rw [← List.dropLast_concat_getLast (l := a) (by intro h0; rw [h0] at h; cases h)]
      exact h1 _ _ (ih _ (by simp [h]))
  exact this _ a rfl
theorem cons2 {α : Type} {x y : α} {a b : List α} (h : x = y) (k : a = b) : x :: a = y :: b := by rw [h, k]
theorem app2 {α : Type} {x y a b : List α} (h : x = y) (k : a = b) : x ++ a = y ++ b := by rw [h, k]
def bitsOf (v n : Nat) : List Bool := (List.range n).map fun i => v.testBit (n - 1 - i)
def bitNum (bs : List Bool) : Nat := bs.foldl (fun v b => v * 2 + b.toNat) 0
@[simp] theorem bitsOf_length (v n : Nat) : (bitsOf v n).length = n := by simp [bitsOf]
@[simp] theorem bitsOf_zero (v : Nat) : bitsOf v 0 = [] := rfl
theorem bitsOf_succ (v n : Nat) : bitsOf v (n + 1) = v.testBit n :: bitsOf v n := by
  simp only [bitsOf, List.range_succ_eq_map, List.map_cons, List.map_map]
  refine cons2 (by simp) (List.map_congr_left fun i _ => ?_)
  simp only [Function.comp]
  congr 1
  omega
/-- The last bit stands behind the others. -/
theorem bitsOf_last (v n : Nat) : bitsOf v (n + 1) = bitsOf (v / 2) n ++ [v.testBit 0] := by
  simp only [bitsOf, List.range_succ, List.map_append, List.map_cons, List.map_nil]
  refine app2 (List.map_congr_left fun i hi => ?_) (by simp)
  have := List.mem_range.1 hi
  rw [← Nat.testBit_succ]
  congr 1
  omega
theorem bitsOf_mod (v n : Nat) : bitsOf (v % 2 ^ n) n = bitsOf v n := by
  simp only [bitsOf]
  refine List.map_congr_left fun i hi => ?_
  have := List.mem_range.1 hi
  rw [Nat.testBit_mod_two_pow, decide_eq_true (by omega), Bool.true_and]
theorem bitNum_append (a b : List Bool) : bitNum (a ++ b) = bitNum a * 2 ^ b.length + bitNum b := by
  have key : ∀ (b : List Bool) (x : Nat), b.foldl (fun v b => v * 2 + b.toNat) x = x * 2 ^ b.length + bitNum b := by
    intro b
    induction b with
    | nil => intro x; simp [bitNum]
    | cons c b ih =>
      intro x
      simp only [List.foldl_cons, List.length_cons, bitNum]
      rw [ih, ih (0 * 2 + c.toNat), Nat.pow_succ, Nat.add_mul, Nat.zero_mul, Nat.zero_add, Nat.mul_assoc, Nat.mul_comm 2]
      omega
  simp only [bitNum, List.foldl_append]
  rw [key]; rfl
theorem bitNum_snoc (a : List Bool) (x : Bool) : bitNum (a ++ [x]) = bitNum a * 2 + x.toNat := by simp [bitNum_append, bitNum]
theorem bitNum_lt (a : List Bool) : bitNum a < 2 ^ a.length := by
  induction a using snoc_ind with
  | h0 => simp [bitNum]
  | h1 a x ih =>
    rw [bitNum_snoc]
    simp only [List.length_append, List.length_singleton, Nat.pow_succ]
    have := Bool.toNat_le x
    omega
theorem bitNum_bitsOf (v n : Nat) : bitNum (bitsOf v n) = v % 2 ^ n := by
  induction n generalizing v with
  | zero => simp [bitNum, Nat.mod_one]
  | succ n ih =>
    rw [bitsOf_last, bitNum_snoc, ih, Nat.pow_succ, Nat.mul_comm (2 ^ n), Nat.mod_mul]
    have : (v.testBit 0).toNat = v % 2 := by rw [Nat.testBit_zero]; rcases Nat.mod_two_eq_zero_or_one v with h | h <;> simp [h]
    rw [this]; omega
theorem bitsOf_bitNum (a : List Bool) : bitsOf (bitNum a) a.length = a := by
  induction a using snoc_ind with
  | h0 => rfl
  | h1 a x ih =>
    rw [bitNum_snoc]
    simp only [List.length_append, List.length_singleton]
    rw [bitsOf_last]
    have h1 : (bitNum a * 2 + x.toNat) / 2 = bitNum a := by have := Bool.toNat_le x; omega
    have h2 : (bitNum a * 2 + x.toNat).testBit 0 = x := by rw [Nat.testBit_zero]; cases x <;> simp
    rw [h1, h2, ih]
/-- The bytes' bits are these, noughts behind them. -/
def Packs (vs : List Nat) (bs : List Bool) : Prop :=
  vs.length = (bs.length + 7) / 8 ∧ ∀ i, i < vs.length → vs.getD i 0 < 256 ∧ ∀ k, k < 8 → (vs.getD i 0).testBit (7 - k) = bs.getD (8 * i + k) false
/-- There is room for one bit more. -/
def PacksR (vs : List Nat) (bs : List Bool) : Prop :=
  vs.length = bs.length / 8 + 1 ∧ ∀ i, i < vs.length → vs.getD i 0 < 256 ∧ ∀ k, k < 8 → (vs.getD i 0).testBit (7 - k) = bs.getD (8 * i + k) false
theorem Packs.nil : Packs [] [] := ⟨rfl, fun i hi => by simp at hi⟩
theorem byte_ext {a b : Nat} (ha : a < 256) (hb : b < 256) (h : ∀ k, k < 8 → a.testBit (7 - k) = b.testBit (7 - k)) : a = b := by
  apply Nat.eq_of_testBit_eq
  intro i
  by_cases hi : i < 8
  · have := h (7 - i) (by omega)
    rwa [show 7 - (7 - i) = i by omega] at this
  · have : 2 ^ 8 ≤ 2 ^ i := Nat.pow_le_pow_right (by omega) (by omega)
    rw [Nat.testBit_lt_two_pow (by omega), Nat.testBit_lt_two_pow (by omega)]
theorem Packs.unique {vs us : List Nat} {bs : List Bool} (h : Packs vs bs) (k : Packs us bs) : vs = us := by
  apply List.ext_getElem (by rw [h.1, k.1])
  intro i h1 h2
  have a := h.2 i h1
  have b := k.2 i h2
  rw [List.getD_eq_getElem?_getD, List.getElem?_eq_getElem h1, Option.getD_some] at a
  rw [List.getD_eq_getElem?_getD, List.getElem?_eq_getElem h2, Option.getD_some] at b
  exact byte_ext a.1 b.1 fun k hk => by rw [a.2 k hk, b.2 k hk]
theorem Packs.room0 {vs : List Nat} {bs : List Bool} (h : Packs vs bs) (h8 : bs.length % 8 = 0) : PacksR (vs ++ [0]) bs := by
  have h1 := h.1
  refine ⟨by simp; omega, fun i hi => ?_⟩
  simp only [List.length_append, List.length_singleton] at hi
  by_cases hl : i < vs.length
  · have := h.2 i hl
    rwa [show (vs ++ [0] : List Nat).getD i 0 = vs.getD i 0 from by simp [List.getD_eq_getElem?_getD, List.getElem?_append_left hl]]
  · have e : i = vs.length := by omega
    subst e
    rw [show (vs ++ [0] : List Nat).getD vs.length 0 = 0 from by simp]
    refine ⟨by omega, fun k hk => ?_⟩
    rw [Nat.zero_testBit, List.getD_eq_getElem?_getD, List.getElem?_eq_none (by omega)]; rfl
theorem Packs.room {vs : List Nat} {bs : List Bool} (h : Packs vs bs) (h8 : bs.length % 8 ≠ 0) : PacksR vs bs := ⟨by have := h.1; omega, h.2⟩
theorem PacksR.put {vs : List Nat} {bs : List Bool} (h : PacksR vs bs) (x : Bool) :
    Packs (vs.set (vs.length - 1) (vs.getD (vs.length - 1) 0 ||| x.toNat * 2 ^ (7 - bs.length % 8))) (bs ++ [x]) := by
  have h1 := h.1
  refine ⟨by simp; omega, fun i hi => ?_⟩
  simp only [List.length_set] at hi
  by_cases hl : i = vs.length - 1
  · subst hl
    rw [show (vs.set (vs.length - 1) (vs.getD (vs.length - 1) 0 ||| x.toNat * 2 ^ (7 - bs.length % 8))).getD (vs.length - 1) 0 = vs.getD (vs.length - 1) 0 ||| x.toNat * 2 ^ (7 - bs.length % 8) by
      simp [List.getD_eq_getElem?_getD, hi]]
    obtain ⟨g1, g2⟩ := h.2 _ hi
    have hx : x.toNat * 2 ^ (7 - bs.length % 8) < 256 := by
      have : 2 ^ (7 - bs.length % 8) ≤ 2 ^ 7 := Nat.pow_le_pow_right (by omega) (by omega)
      have := Bool.toNat_le x
      have : x.toNat * 2 ^ (7 - bs.length % 8) ≤ 1 * 2 ^ 7 := Nat.mul_le_mul (by omega) (by omega)
      omega
    refine ⟨Nat.or_lt_two_pow (n := 8) g1 hx, fun k hk => ?_⟩
    rw [Nat.testBit_or, g2 k hk]
    have e : 8 * (vs.length - 1) = 8 * (bs.length / 8) := by omega
    have hm := Nat.div_add_mod bs.length 8
    rw [e]
    have tb : (x.toNat * 2 ^ (7 - bs.length % 8)).testBit (7 - k) = (x && decide (k = bs.length % 8)) := by
      cases x
      · simp
      · simp only [Bool.toNat_true, Nat.one_mul, Bool.true_and, Nat.testBit_two_pow]
        exact decide_eq_decide.2 ⟨fun h => by omega, fun h => by omega⟩
    rw [tb]
    by_cases hk2 : k < bs.length % 8
    · rw [List.getD_eq_getElem?_getD, List.getD_eq_getElem?_getD, List.getElem?_append_left (by omega)]
      simp [show k ≠ bs.length % 8 by omega]
    · by_cases hk3 : k = bs.length % 8
      · subst hk3
        rw [List.getD_eq_getElem?_getD, List.getD_eq_getElem?_getD, hm, List.getElem?_append_right (Nat.le_refl _), List.getElem?_eq_none (Nat.le_refl _)]
        simp
      · rw [List.getD_eq_getElem?_getD, List.getD_eq_getElem?_getD, List.getElem?_eq_none (by omega), List.getElem?_eq_none (by simp; omega)]
        simp [hk3]
  · have hne : (vs.set (vs.length - 1) (vs.getD (vs.length - 1) 0 ||| x.toNat * 2 ^ (7 - bs.length % 8))).getD i 0 = vs.getD i 0 := by
      simp only [List.getD_eq_getElem?_getD]
      rw [List.getElem?_set_ne (by omega)]
    rw [hne]
    obtain ⟨g1, g2⟩ := h.2 i hi
    refine ⟨g1, fun k hk => ?_⟩
    rw [g2 k hk, List.getD_eq_getElem?_getD, List.getD_eq_getElem?_getD, List.getElem?_append_left (by omega)]
/-- What stands in full bytes stands ahead of what comes. -/
theorem Packs.append {vs us : List Nat} {bs cs : List Bool} (h : Packs vs bs) (k : Packs us cs) (h8 : bs.length % 8 = 0) : Packs (vs ++ us) (bs ++ cs) := by
  have h1 := h.1
  have k1 := k.1
  refine ⟨by simp; omega, fun i hi => ?_⟩
  simp only [List.length_append] at hi
  by_cases hl : i < vs.length
  · have := h.2 i hl
    rw [show (vs ++ us).getD i 0 = vs.getD i 0 by simp [List.getD_eq_getElem?_getD, List.getElem?_append_left hl]]
    refine ⟨this.1, fun q hq => ?_⟩
    rw [this.2 q hq, List.getD_eq_getElem?_getD, List.getD_eq_getElem?_getD, List.getElem?_append_left (by omega)]
  · have := k.2 (i - vs.length) (by omega)
    rw [show (vs ++ us).getD i 0 = us.getD (i - vs.length) 0 by simp [List.getD_eq_getElem?_getD, List.getElem?_append_right (Nat.le_of_not_lt hl)]]
    refine ⟨this.1, fun q hq => ?_⟩
    rw [this.2 q hq, List.getD_eq_getElem?_getD, List.getD_eq_getElem?_getD, List.getElem?_append_right (by omega)]
    congr 2
    omega
/-- The full bytes are those of the bits ahead. -/
theorem Packs.front {vs us : List Nat} {bs cs : List Bool} (h : Packs vs bs) (k : Packs us (bs ++ cs)) : us.take (bs.length / 8) = vs.take (bs.length / 8) := by
  have h1 := h.1
  have k1 := k.1
  simp only [List.length_append] at k1
  apply List.ext_getElem (by simp; omega)
  intro i g1 g2
  simp only [List.length_take] at g1 g2
  simp only [List.getElem_take]
  have a := h.2 i (by omega)
  have b := k.2 i (by omega)
  rw [List.getD_eq_getElem?_getD, List.getElem?_eq_getElem (by omega), Option.getD_some] at a b
  refine byte_ext b.1 a.1 fun q hq => ?_
  rw [a.2 q hq, b.2 q hq, List.getD_eq_getElem?_getD, List.getD_eq_getElem?_getD, List.getElem?_append_left (by omega)]
def bitAt (s : ByteArray) (i : Nat) : Bool := (s.data.toList.getD (i / 8) 0).toNat.testBit (7 - i % 8)
def unpack (s : ByteArray) : List Bool := (List.range (8 * s.size)).map (bitAt s)
@[simp] theorem unpack_length (s : ByteArray) : (unpack s).length = 8 * s.size := by simp [unpack]
theorem unpack_get {s : ByteArray} {i : Nat} (h : i < 8 * s.size) : (unpack s)[i]? = some (bitAt s i) := by simp [unpack, h]
/-- Bytes az a string. -/
def strOf (vs : List Nat) : ByteArray := ⟨(vs.map UInt8.ofNat).toArray⟩
@[simp] theorem strOf_size (vs : List Nat) : (strOf vs).size = vs.length := by simp [strOf, ByteArray.size]
theorem Packs.unpack {vs : List Nat} {bs : List Bool} (h : Packs vs bs) : unpack (strOf vs) = bs ++ List.replicate (8 * vs.length - bs.length) false := by
  have h1 := h.1
  apply List.ext_getElem?
  intro i
  by_cases hi : i < 8 * vs.length
  · rw [unpack_get (by simpa using hi)]
    have g := h.2 (i / 8) (by omega)
    have e : (strOf vs).data.toList.getD (i / 8) 0 = UInt8.ofNat (vs.getD (i / 8) 0) := by
      simp [strOf, List.getD_eq_getElem?_getD]
      rw [List.getElem?_eq_getElem (by omega)]
      simp
    have t : bitAt (strOf vs) i = bs.getD i false := by
      rw [bitAt, e, UInt8.toNat_ofNat', Nat.mod_eq_of_lt g.1, g.2 (i % 8) (by omega), Nat.div_add_mod]
    rw [t]
    by_cases hb : i < bs.length
    · rw [List.getElem?_append_left hb, List.getD_eq_getElem?_getD, List.getElem?_eq_getElem hb]; rfl
    · rw [List.getElem?_append_right (by omega), List.getD_eq_getElem?_getD, List.getElem?_eq_none (by omega), List.getElem?_replicate, if_pos (by omega)]; rfl
  · rw [List.getElem?_eq_none (by simp only [unpack_length, strOf_size]; omega), List.getElem?_eq_none (by simp only [List.length_append, List.length_replicate]; omega)]
end Go.Rlm
end

section
namespace Go.Rlm
theorem wI64 {n : Int} (h1 : -9223372036854775808 ≤ n) (h2 : n < 9223372036854775808) : IntKind.wrap .i64 n = n := by
  simp [IntKind.wrap, IntKind.bits, IntKind.signed]
  split <;> omega
theorem wU8 {n : Int} (h1 : 0 ≤ n) (h2 : n < 256) : IntKind.wrap .u8 n = n := by
  simp only [IntKind.wrap, IntKind.bits, IntKind.signed, Bool.false_and, Bool.false_eq_true, if_false]
  have e1 : (2 : Int) ^ 8 = 256 := by decide
  rw [e1]; omega
theorem wU32 {n : Int} (h1 : 0 ≤ n) (h2 : n < 4294967296) : IntKind.wrap .u32 n = n := by
  simp only [IntKind.wrap, IntKind.bits, IntKind.signed, Bool.false_and, Bool.false_eq_true, if_false]
  have e1 : (2 : Int) ^ 32 = 4294967296 := by decide
  rw [e1]; omega
theorem wU64 {n : Int} (h1 : 0 ≤ n) (h2 : n < 18446744073709551616) : IntKind.wrap .u64 n = n := by
  simp only [IntKind.wrap, IntKind.bits, IntKind.signed, Bool.false_and, Bool.false_eq_true, if_false]
  have e1 : (2 : Int) ^ 64 = 18446744073709551616 := by decide
  rw [e1]; omega
theorem wrap_nat {k : IntKind} (hk : k.signed = false) {a : Nat} (ha : a < 2 ^ k.bits) : IntKind.wrap k (a : Int) = a := by
  simp only [IntKind.wrap, hk, Bool.false_and, Bool.false_eq_true, if_false]
  rw [Int.emod_eq_of_lt (by omega)]
  have : ((2 ^ k.bits : Nat) : Int) = (2 : Int) ^ k.bits := by push_cast; rfl
  omega
theorem bitop_or {k : IntKind} (hk : k.signed = false) {a b : Nat} (ha : a < 2 ^ k.bits) (hb : b < 2 ^ k.bits) : bitop .or k (a : Int) (b : Int) = ((a ||| b : Nat) : Int) := by
  simp only [bitop, BitVec.ofInt_natCast, BitVec.toNat_or, BitVec.toNat_ofNat, Nat.mod_eq_of_lt ha, Nat.mod_eq_of_lt hb]
  exact wrap_nat hk (Nat.or_lt_two_pow ha hb)
theorem bitop_and {k : IntKind} (hk : k.signed = false) {a b : Nat} (ha : a < 2 ^ k.bits) (hb : b < 2 ^ k.bits) : bitop .and k (a : Int) (b : Int) = ((a &&& b : Nat) : Int) := by
  simp only [bitop, BitVec.ofInt_natCast, BitVec.toNat_and, BitVec.toNat_ofNat, Nat.mod_eq_of_lt ha, Nat.mod_eq_of_lt hb]
  exact wrap_nat hk (Nat.and_lt_two_pow _ hb)
theorem fdiv_pow (a k : Nat) : Int.fdiv (a : Int) (2 ^ k) = ((a / 2 ^ k : Nat) : Int) := by
  have : ((2 ^ k : Nat) : Int) = (2 : Int) ^ k := by push_cast; rfl
  rw [← this, Int.fdiv_eq_ediv_of_nonneg _ (Int.natCast_nonneg _)]
  rfl
theorem tdiv_nat (a b : Nat) : Int.tdiv (a : Int) (b : Int) = ((a / b : Nat) : Int) := by
  rw [Int.tdiv_eq_ediv_of_nonneg (by omega)]; rfl
theorem tmod_nat (a b : Nat) : Int.tmod (a : Int) (b : Int) = ((a % b : Nat) : Int) := by
  rw [Int.tmod_eq_emod_of_nonneg (by omega)]; rfl
@[simp] theorem mk_add (b o n : Nat) : Addr.add ⟨b, o, none⟩ n = ⟨b, o + n, none⟩ := by
  unfold Addr.add
  split
  · rename_i h; subst h; rfl
  · rfl
theorem cell_of {L : LHeap} {b o : Nat} {cs : List Value} {e : TypeId} {ro : Bool} {sp : Nat} (h : L[b]? = some (.cells cs e ro sp)) : cell L ⟨b, o, none⟩ = cs[o]? := by simp [cell, h]
theorem stores_of {L : LHeap} {b o : Nat} {cs vs : List Value} {e : TypeId} {sp : Nat} (h : L[b]? = some (.cells cs e false sp)) (hl : o + vs.length ≤ cs.length) :
    stores L ⟨b, o, none⟩ vs = some (L.set b (.cells (setAll cs o vs) e false sp)) := by
  simp only [stores, h]
  rw [Nat.ble_eq_true_of_le hl]; rfl
theorem idx_of {b o n c i esz : Nat} (h : i < n) : idx ⟨some ⟨b, o, none⟩, n, c⟩ (i : Int) esz = some ⟨b, o + i * esz, none⟩ := by
  simp only [idx]
  rw [show (decide (0 ≤ (i : Int)) && decide ((i : Int) < (n : Int))) = true by simpa using h]
  simp [mk_add]
theorem get_lt {α : Type} {L : List α} {b : Nat} {x : α} (h : L[b]? = some x) : b < L.length := (List.getElem?_eq_some_iff.1 h).1
theorem get_set_ne {L : LHeap} {b c : Nat} {x : LBlk} (h : b ≠ c) : (L.set b x)[c]? = L[c]? := List.getElem?_set_ne h
theorem get_set_self {L : LHeap} {b : Nat} {x y : LBlk} (h : L[b]? = some y) : (L.set b x)[b]? = some x := by
  rw [List.getElem?_set_self (get_lt h)]
theorem get_push {L X : LHeap} {b : Nat} (h : b < L.length) : (L ++ X)[b]? = L[b]? := List.getElem?_append_left h
theorem get_new {L : LHeap} {x : LBlk} : (L ++ [x])[L.length]? = some x := by simp
/-- From L to L' by one that owns the blocks F, and then F'. -/
structure Step (F : List Nat) (L : LHeap) (F' : List Nat) (L' : LHeap) : Prop where
  len : L.length ≤ L'.length
  keep : ∀ i, i < L.length → i ∉ F → L'[i]? = L[i]?
  foot : ∀ i ∈ F', i ∈ F ∨ L.length ≤ i
theorem Step.refl (F : List Nat) (L : LHeap) : Step F L F L := ⟨Nat.le_refl _, fun _ _ _ => rfl, fun _ h => .inl h⟩
theorem Step.trans {F F1 F2 : List Nat} {L L1 L2 : LHeap} (h : Step F L F1 L1) (k : Step F1 L1 F2 L2) : Step F L F2 L2 := by
  refine ⟨Nat.le_trans h.len k.len, fun i hi hF => ?_, fun i hi => ?_⟩
  · rw [k.keep i (Nat.lt_of_lt_of_le hi h.len) (fun h1 => by rcases h.foot i h1 with h2 | h2; exact hF h2; omega), h.keep i hi hF]
  · rcases k.foot i hi with h1 | h1
    · exact h.foot i h1
    · exact .inr (Nat.le_trans h.len h1)
theorem Step.mono {F F' G : List Nat} {L L' : LHeap} (h : Step F L F' L') (hG : ∀ i ∈ F, i ∈ G) : Step G L F' L' :=
  ⟨h.len, fun i hi hn => h.keep i hi fun h1 => hn (hG i h1), fun i hi => (h.foot i hi).imp (hG i) id⟩
theorem Step.less {F F' G : List Nat} {L L' : LHeap} (h : Step F L F' L') (hG : ∀ i ∈ G, i ∈ F' ∨ i ∈ F) : Step F L G L' :=
  ⟨h.len, h.keep, fun i hi => (hG i hi).elim (h.foot i) .inl⟩
theorem Step.push (F : List Nat) (L X : LHeap) : Step F L F (L ++ X) := ⟨by simp, fun i hi _ => get_push hi, fun _ h => .inl h⟩
theorem Step.new (F : List Nat) (L : LHeap) (x : LBlk) : Step F L (L.length :: F) (L ++ [x]) :=
  ⟨by simp, fun i hi _ => get_push hi, fun i h => by rcases List.mem_cons.1 h with rfl | h; exact .inr (Nat.le_refl _); exact .inl h⟩
theorem Step.set {F : List Nat} {L : LHeap} {b : Nat} (x : LBlk) (h : b ∈ F) : Step F L F (L.set b x) :=
  ⟨by simp, fun i _ hn => get_set_ne (fun e => hn (e ▸ h)), fun _ h => .inl h⟩
/-- What belongs to another one stays. -/
def Apart (F G : List Nat) : Prop := ∀ i ∈ F, i ∉ G
theorem Apart.symm {F G : List Nat} (h : Apart F G) : Apart G F := fun i hi hf => h i hf hi
def Within (F : List Nat) (L : LHeap) : Prop := ∀ i ∈ F, i < L.length
theorem Step.others {F F' G : List Nat} {L L' : LHeap} (h : Step F L F' L') (hG : Within G L) (ha : Apart F G) : ∀ i ∈ G, L'[i]? = L[i]? :=
  fun i hi => h.keep i (hG i hi) fun hf => ha i hf hi
theorem Step.apart {F F' G : List Nat} {L L' : LHeap} (h : Step F L F' L') (hG : Within G L) (ha : Apart F G) : Apart F' G := by
  intro i hi hg
  rcases h.foot i hi with h1 | h1
  · exact ha i h1 hg
  · have := hG i hg; omega
theorem Step.within {F F' G : List Nat} {L L' : LHeap} (h : Step F L F' L') (hG : Within G L) : Within G L' := fun i hi => Nat.lt_of_lt_of_le (hG i hi) h.len
def OS (L : LHeap) (s : Sl) (vs : List Value) (e : TypeId) (F : List Nat) : Prop :=
  (s = ⟨none, 0, 0⟩ ∧ vs = [] ∧ F = []) ∨ ∃ c, s = ⟨some ⟨c, 0, none⟩, vs.length, OPEN⟩ ∧ L[c]? = some (.cells vs e false 1) ∧ F = [c]
theorem OS.nil (L : LHeap) (e : TypeId) : OS L ⟨none, 0, 0⟩ [] e [] := .inl ⟨rfl, rfl, rfl⟩
theorem OS.mono {L L' : LHeap} {s : Sl} {vs : List Value} {e : TypeId} {F : List Nat} (h : OS L s vs e F) (hk : ∀ i ∈ F, L'[i]? = L[i]?) : OS L' s vs e F := by
  rcases h with h | ⟨c, h1, h2, rfl⟩
  · exact .inl h
  · exact .inr ⟨c, h1, by rw [hk c (by simp), h2], rfl⟩
theorem OS.within {L : LHeap} {s : Sl} {vs : List Value} {e : TypeId} {F : List Nat} (h : OS L s vs e F) : Within F L := by
  rcases h with ⟨_, _, rfl⟩ | ⟨c, h1, h2, rfl⟩
  · intro i hi; simp at hi
  · intro i hi; simp at hi; subst hi; exact get_lt h2
theorem OS.len {L : LHeap} {s : Sl} {vs : List Value} {e : TypeId} {F : List Nat} (h : OS L s vs e F) : s.n = vs.length := by
  rcases h with ⟨rfl, rfl, rfl⟩ | ⟨c, rfl, h2, rfl⟩ <;> rfl
theorem blen_of {L : LHeap} {b o : Nat} {cs : List Value} {e : TypeId} {ro : Bool} (h : L[b]? = some (.cells cs e ro 1)) : blen L ⟨b, o, none⟩ 1 = some (cs.length - o) := by
  simp [blen, h]
  rfl
theorem OS.src {L : LHeap} {s : Sl} {vs : List Value} {e : TypeId} {F : List Nat} (h : OS L s vs e F) : srcCells L s s.n 1 = some vs := by
  rcases h with ⟨rfl, rfl, rfl⟩ | ⟨c, rfl, h2, rfl⟩
  · rfl
  · simp only [srcCells]
    cases hv : vs with
    | nil => rfl
    | cons v vs' =>
      rw [hv] at h2
      simp only [List.length_cons, show Nat.beq (vs'.length + 1) 0 = false from rfl, cond_false]
      simp [cellsAt, h2, Nat.ble_eq_true_of_le]
theorem OS.app {L : LHeap} {s : Sl} {vs : List Value} {e : TypeId} {F : List Nat} (h : OS L s vs e F) (news : List Value) (bytes : Nat)
    (hb : (vs.length + news.length) * bytes ≤ 2 ^ 47) (hl : vs.length + news.length ≤ 2 ^ 62) :
    ∃ s' L' F', Rlm.app L e 1 bytes s news.length news = some (s', L') ∧ OS L' s' (vs ++ news) e F' ∧ Step F L F' L' := by
  rcases h with ⟨rfl, rfl, rfl⟩ | ⟨c, rfl, h2, rfl⟩
  · cases news with
    | nil => exact ⟨⟨none, 0, 0⟩, L, [], rfl, .inl ⟨rfl, rfl, rfl⟩, .refl _ _⟩
    | cons x xs =>
      refine ⟨⟨some ⟨L.length, 0, none⟩, xs.length + 1, OPEN⟩, L ++ [.cells (x :: xs) e false 1], [L.length], ?_, .inr ⟨L.length, by simp, by simp, rfl⟩, .new [] L _⟩
      simp only [Rlm.app, List.length_cons, Nat.zero_add]
      rw [show Nat.blt 0 OPEN = true from rfl, show Nat.ble (xs.length + 1) 0 = false from rfl]
      simp only [List.length_nil, List.length_cons, Nat.zero_add] at hb hl
      rw [Nat.ble_eq_true_of_le hb, Nat.ble_eq_true_of_le hl]
      simp [srcCells]
  · have hbl := blen_of (o := 0) h2
    simp only [Rlm.app]
    rw [show Nat.blt OPEN OPEN = false by decide, show Nat.beq OPEN OPEN = true from Nat.beq_refl _]
    simp only [cond_true, cond_false, hbl, Nat.sub_zero]
    cases news with
    | nil =>
      refine ⟨⟨some ⟨c, 0, none⟩, vs.length, OPEN⟩, L, [c], ?_, .inr ⟨c, by simp, by simpa using h2, rfl⟩, .refl _ _⟩
      simp [Nat.ble_eq_true_of_le]
    | cons x xs =>
      refine ⟨⟨some ⟨L.length, 0, none⟩, vs.length + (xs.length + 1), OPEN⟩, L.set c .dead ++ [.cells (vs ++ x :: xs) e false 1], [L.length], ?_, .inr ⟨L.length, by simp, by rw [← (List.length_set : (L.set c LBlk.dead).length = L.length)]; exact get_new, rfl⟩, ?_⟩
      · simp only [List.length_cons] at hb hl ⊢
        have hf : Nat.ble (vs.length + (xs.length + 1)) vs.length = false := by
          cases hc : Nat.ble (vs.length + (xs.length + 1)) vs.length with
          | false => rfl
          | true => have := Nat.le_of_ble_eq_true hc; omega
        rw [hf, Nat.ble_eq_true_of_le hb, Nat.ble_eq_true_of_le hl]
        simp [h2, Nat.ble_eq_true_of_le]
      · refine ⟨by simp, fun i hi hn => ?_, fun i hi => by simp at hi; subst hi; exact .inr (Nat.le_refl _)⟩
        rw [get_push (by simpa using hi), get_set_ne (fun e => hn (by simp [e]))]
/-- A cell of it. -/
theorem OS.get {L : LHeap} {s : Sl} {vs : List Value} {e : TypeId} {F : List Nat} (h : OS L s vs e F) {i : Nat} {v : Value} (hv : vs[i]? = some v) :
    ∃ a, idx s (i : Int) 1 = some a ∧ cell L a = some v := by
  rcases h with ⟨rfl, rfl, rfl⟩ | ⟨c, rfl, h2, rfl⟩
  · simp at hv
  · refine ⟨⟨c, 0 + i * 1, none⟩, idx_of (get_lt hv), ?_⟩
    rw [cell_of h2]; simpa using hv
/-- A cell is written. -/
theorem OS.put {L : LHeap} {s : Sl} {vs : List Value} {e : TypeId} {F : List Nat} (h : OS L s vs e F) {i : Nat} (hi : i < vs.length) (v : Value) :
    ∃ a L', idx s (i : Int) 1 = some a ∧ stores L a [v] = some L' ∧ OS L' s (vs.set i v) e F ∧ Step F L F L' := by
  rcases h with ⟨rfl, rfl, rfl⟩ | ⟨c, rfl, h2, rfl⟩
  · simp at hi
  · refine ⟨⟨c, 0 + i * 1, none⟩, _, idx_of hi, stores_of h2 (by simp; omega), .inr ⟨c, by simp, ?_, rfl⟩, .set _ (by simp)⟩
    rw [get_set_self h2]; simp [setAll]
def bV (n : Nat) : Value := .int .u8 n
theorem toBytes_of (vs : List Nat) (hb : ∀ n ∈ vs, n < 256) (acc : ByteArray) : toBytes (vs.map bV) acc = some ⟨acc.data ++ (vs.map UInt8.ofNat).toArray⟩ := by
  induction vs generalizing acc with
  | nil => simp [toBytes]
  | cons v vs ih =>
    simp only [List.map_cons, bV, toBytes]
    have := ih (fun n hn => hb n (by simp [hn])) (acc.push (UInt8.ofNat v))
    rw [show (v : Int).toNat = v from rfl, this]
    simp [ByteArray.push]
theorem OS.bytes {L : LHeap} {s : Sl} {vs : List Nat} {e : TypeId} {F : List Nat} (h : OS L s (vs.map bV) e F) (hb : ∀ n ∈ vs, n < 256) : bytesOf L s = some (strOf vs) := by
  simp only [bytesOf, h.src, Option.bind_eq_bind, Option.bind_some, toBytes_of vs hb]
  simp [strOf, ByteArray.empty, ByteArray.emptyWithCapacity]
  rfl
theorem Packs.small {vs : List Nat} {bs : List Bool} (h : Packs vs bs) : ∀ n ∈ vs, n < 256 := by
  intro n hn
  obtain ⟨i, hi, rfl⟩ := List.getElem_of_mem hn
  have := (h.2 i hi).1
  rwa [List.getD_eq_getElem?_getD, List.getElem?_eq_getElem hi] at this
end Go.Rlm
end

section
namespace Go.Rlm
open Go.ChangeShapes Go.WideShapes
/-- At the machine: a slice that came in, of so many cells. -/
def Inp (L : LHeap) (l : Sl) (esz : Nat) (vs : List Value) (A : List Nat) : Prop :=
  l.n * esz = vs.length ∧ ((vs = [] ∧ A = []) ∨ ∃ c, l.a = some ⟨c, 0, none⟩ ∧ L[c]? = some (.cells vs 0 true 0) ∧ A = [c])
theorem Inp.mono {L L' : LHeap} {l : Sl} {esz : Nat} {vs : List Value} {A : List Nat} (h : Inp L l esz vs A) (hk : ∀ i ∈ A, L'[i]? = L[i]?) : Inp L' l esz vs A := by
  obtain ⟨h1, h | ⟨c, h2, h3, rfl⟩⟩ := h
  · exact ⟨h1, .inl h⟩
  · exact ⟨h1, .inr ⟨c, h2, by rw [hk c (by simp), h3], rfl⟩⟩
theorem Inp.within {L : LHeap} {l : Sl} {esz : Nat} {vs : List Value} {A : List Nat} (h : Inp L l esz vs A) : Within A L := by
  obtain ⟨h1, ⟨_, rfl⟩ | ⟨c, h2, h3, rfl⟩⟩ := h
  · intro i hi; simp at hi
  · intro i hi; simp at hi; subst hi; exact get_lt h3
theorem Inp.get {L : LHeap} {l : Sl} {esz : Nat} {vs : List Value} {A : List Nat} (h : Inp L l esz vs A) {i : Nat} (hi : i < l.n) (he : 0 < esz) :
    ∃ c, idx l (i : Int) esz = some ⟨c, i * esz, none⟩ ∧ ∀ L', (∀ x ∈ A, L'[x]? = L[x]?) → ∀ o, cell L' ⟨c, o, none⟩ = vs[o]? := by
  obtain ⟨h1, ⟨rfl, _⟩ | ⟨c, h2, h3, rfl⟩⟩ := h
  · have := Nat.mul_le_mul (show 1 ≤ l.n by omega) he; simp at h1 this; omega
  · refine ⟨c, ?_, fun L' hk o => cell_of (by rw [hk c (by simp), h3])⟩
    have := idx_of (b := c) (o := 0) (n := l.n) (c := l.c) (esz := esz) hi
    rw [← h2] at this
    simpa using this
/-- Pairs. -/
def pairCells : List (Nat × Int) → List Value
  | [] => []
  | p :: ps => .int .u32 (p.1 : Int) :: .int .i64 p.2 :: pairCells ps
@[simp] theorem pairCells_length (ps : List (Nat × Int)) : (pairCells ps).length = ps.length * 2 := by
  induction ps with
  | nil => rfl
  | cons p ps ih => simp [pairCells, ih]; omega
end Go.Rlm
end

section
namespace Go.Rlm
/-- How many of a list's first ones are z. -/
def lead (z : Int) : List Int → Nat
  | [] => 0
  | x :: xs => if x = z then lead z xs + 1 else 0
theorem lead_le (z : Int) : ∀ zs, lead z zs ≤ zs.length
  | [] => Nat.le_refl _
  | x :: xs => by
    unfold lead
    have := lead_le z xs
    split <;> simp <;> omega
theorem lead_take (z : Int) : ∀ zs, zs.take (lead z zs) = List.replicate (lead z zs) z
  | [] => rfl
  | x :: xs => by
    unfold lead
    split
    · rename_i h; subst h; simp [List.replicate_succ, lead_take]
    · rfl
theorem lead_next (z : Int) : ∀ zs, zs[lead z zs]? ≠ some z
  | [] => by simp
  | x :: xs => by
    unfold lead
    split
    · rename_i h; simpa using lead_next z xs
    · rename_i h; simpa using h
theorem lead_get {z : Int} {zs : List Int} {i : Nat} (h : i < lead z zs) : zs[i]? = some z := by
  have h1 := lead_take z zs
  have h2 : (zs.take (lead z zs))[i]? = some z := by rw [h1]; simp [h]
  rw [List.getElem?_take, if_pos h] at h2
  exact h2
/-- The run by which a list begins. -/
def runOf (z : Int) (zs : List Int) : Nat := 1 + min 15 (lead z zs)
def runs : Nat → List Int → List (Int × Nat)
  | 0, _ => []
  | _, [] => []
  | f + 1, z :: zs => (z, runOf z zs) :: runs f ((z :: zs).drop (runOf z zs))
def tabRuns (zs : List Int) : List (Int × Nat) := runs zs.length zs
def runByte (p : Int × Nat) : Nat := p.1.toNat * 16 + (p.2 - 1)
/-- The bytes of lengths. -/
def tabBytes (zs : List Int) : List Nat := (tabRuns zs).map runByte
theorem runOf_pos (z : Int) (zs : List Int) : 1 ≤ runOf z zs ∧ runOf z zs ≤ 16 ∧ runOf z zs ≤ zs.length + 1 := by
  have := lead_le z zs
  unfold runOf; omega
theorem runs_fuel : ∀ (f g : Nat) (zs : List Int), zs.length ≤ f → zs.length ≤ g → runs f zs = runs g zs
  | 0, g, [], _, _ => by cases g <;> rfl
  | f + 1, g, [], _, _ => by cases g <;> rfl
  | 0, g, z :: zs, h, _ => by simp at h
  | f + 1, 0, z :: zs, _, h => by simp at h
  | f + 1, g + 1, z :: zs, h1, h2 => by
    have := runOf_pos z zs
    simp only [runs]
    rw [runs_fuel f g _ (by simp at *; omega) (by simp at *; omega)]
theorem tabRuns_cons (z : Int) (zs : List Int) : tabRuns (z :: zs) = (z, runOf z zs) :: tabRuns ((z :: zs).drop (runOf z zs)) := by
  have := runOf_pos z zs
  unfold tabRuns
  simp only [List.length_cons, runs]
  rw [runs_fuel _ ((z :: zs).drop (runOf z zs)).length _ (by simp; omega) (Nat.le_refl _)]
def expand (rs : List (Int × Nat)) : List Int := rs.flatMap fun p => List.replicate p.2 p.1
theorem expand_cons (p : Int × Nat) (rs : List (Int × Nat)) : expand (p :: rs) = List.replicate p.2 p.1 ++ expand rs := by simp [expand]
theorem expand_append (a b : List (Int × Nat)) : expand (a ++ b) = expand a ++ expand b := by simp [expand]
/-- What runs are told: no two of one length but behind a full one. -/
def RunsOk : List (Int × Nat) → Prop
  | [] => True
  | [p] => 1 ≤ p.2 ∧ p.2 ≤ 16
  | p :: q :: rs => (1 ≤ p.2 ∧ p.2 ≤ 16) ∧ (p.1 = q.1 → p.2 = 16) ∧ RunsOk (q :: rs)
theorem run_take (z : Int) (zs : List Int) : (z :: zs).take (runOf z zs) = List.replicate (runOf z zs) z := by
  unfold runOf
  rw [show 1 + min 15 (lead z zs) = min 15 (lead z zs) + 1 by omega, List.take_succ_cons, List.replicate_succ]
  congr 1
  have h := lead_take z zs
  rw [show zs.take (min 15 (lead z zs)) = (zs.take (lead z zs)).take (min 15 (lead z zs)) by rw [List.take_take]; congr 1; omega, h, List.take_replicate]
  rw [show min (min 15 (lead z zs)) (lead z zs) = min 15 (lead z zs) by omega]
theorem expand_tabRuns : ∀ (n : Nat) (zs : List Int), zs.length ≤ n → expand (tabRuns zs) = zs
  | _, [], _ => rfl
  | 0, z :: zs, h => by simp at h
  | n + 1, z :: zs, h => by
    have := runOf_pos z zs
    rw [tabRuns_cons, expand_cons, expand_tabRuns n _ (by simp at *; omega)]
    simp only
    rw [← run_take, List.take_append_drop]
theorem tabRuns_head {zs : List Int} {p : Int × Nat} (h : (tabRuns zs)[0]? = some p) : zs[0]? = some p.1 ∧ 1 ≤ p.2 ∧ p.2 ≤ 16 := by
  cases zs with
  | nil => cases h
  | cons z zs =>
    rw [tabRuns_cons] at h
    simp at h
    subst h
    have := runOf_pos z zs
    exact ⟨rfl, this.1, this.2.1⟩
theorem runsOk_cons {p : Int × Nat} {rs : List (Int × Nat)} : RunsOk (p :: rs) ↔ (1 ≤ p.2 ∧ p.2 ≤ 16) ∧ (∀ q, rs[0]? = some q → p.1 = q.1 → p.2 = 16) ∧ RunsOk rs := by
  cases rs with
  | nil => simp [RunsOk]
  | cons q rs => simp [RunsOk]
theorem runsOk_tab : ∀ (n : Nat) (zs : List Int), zs.length ≤ n → RunsOk (tabRuns zs)
  | _, [], _ => trivial
  | 0, z :: zs, h => by simp at h
  | n + 1, z :: zs, h => by
    have hr := runOf_pos z zs
    rw [tabRuns_cons, runsOk_cons]
    refine ⟨⟨hr.1, hr.2.1⟩, fun q hq he => ?_, runsOk_tab n _ (by simp at *; omega)⟩
    obtain ⟨h1, _⟩ := tabRuns_head hq
    simp only at he
    rw [← he, List.getElem?_drop] at h1
    simp only
    unfold runOf at *
    by_cases h15 : 15 ≤ lead z zs
    · omega
    · exfalso
      have hm : min 15 (lead z zs) = lead z zs := by omega
      rw [hm, Nat.add_zero, Nat.add_comm 1, List.getElem?_cons_succ] at h1
      exact lead_next z zs h1
def byteRun (b : Nat) : Int × Nat := (((b / 16 : Nat) : Int), b % 16 + 1)
theorem byteRun_runByte {z : Int} {m : Nat} (h0 : 0 ≤ z) (h1 : 1 ≤ m) (h2 : m ≤ 16) : byteRun (runByte (z, m)) = (z, m) := by
  unfold byteRun runByte
  simp only
  refine Prod.ext ?_ ?_
  · simp only; omega
  · simp only; omega
/-- What the program does. -/
def readTab (n : Nat) : List Nat → List Int → Nat → Int → Bool → Option (List Int × Nat)
  | [], acc, used, _, _ => if acc.length < n then none else some (acc, used)
  | b :: bs, acc, used, last, full =>
    if acc.length < n then
      if ((byteRun b).1 = last ∧ full = false) ∨ acc.length + (byteRun b).2 > n then none
      else readTab n bs (acc ++ List.replicate (byteRun b).2 (byteRun b).1) (used + 1) (byteRun b).1 ((byteRun b).2 == 16)
    else some (acc, used)
/-- How it goes on behind runs that are well told. -/
def After (rs : List (Int × Nat)) (last : Int) (full : Bool) : Prop := match rs.getLast? with | none => last = -1 ∧ full = true | some p => last = p.1 ∧ full = (p.2 == 16)
theorem runsOk_snoc : ∀ {rs : List (Int × Nat)} {p : Int × Nat}, RunsOk (rs ++ [p]) ↔ RunsOk rs ∧ (1 ≤ p.2 ∧ p.2 ≤ 16) ∧ ∀ q, rs.getLast? = some q → q.1 = p.1 → q.2 = 16
  | [], p => by simp [RunsOk]
  | [q], p => by
    simp only [List.cons_append, List.nil_append, RunsOk, List.getLast?_singleton, Option.some.injEq]
    constructor
    · rintro ⟨h1, h2, h3⟩; exact ⟨h1, h3, fun r hr => by subst hr; exact h2⟩
    · rintro ⟨h1, h2, h3⟩; exact ⟨h1, h3 q rfl, h2⟩
  | q :: r :: rs, p => by
    have ih := runsOk_snoc (rs := r :: rs) (p := p)
    simp only [List.cons_append] at ih ⊢
    simp only [RunsOk]
    rw [ih]
    simp only [List.getLast?_cons_cons]
    constructor
    · rintro ⟨h1, h2, h3, h4, h5⟩; exact ⟨⟨h1, h2, h3⟩, h4, h5⟩
    · rintro ⟨⟨h1, h2, h3⟩, h4, h5⟩; exact ⟨h1, h2, h3, h4, h5⟩
theorem byteRun_ok (b : Nat) : 1 ≤ (byteRun b).2 ∧ (byteRun b).2 ≤ 16 := by unfold byteRun; simp only; omega
theorem runsOk_front {a : List (Int × Nat)} : ∀ {b : List (Int × Nat)}, RunsOk (a ++ b) → RunsOk a := by
  intro b
  induction b using snoc_ind with
  | h0 => intro h; simpa using h
  | h1 b x ih =>
    intro h
    rw [← List.append_assoc, runsOk_snoc] at h
    exact ih h.1
theorem runsOk_mem : ∀ {rs : List (Int × Nat)}, RunsOk rs → ∀ p ∈ rs, 1 ≤ p.2 ∧ p.2 ≤ 16
  | [], _, p, hp => by cases hp
  | q :: rs, h, p, hp => by
    rw [runsOk_cons] at h
    rcases List.mem_cons.1 hp with rfl | hp
    · exact h.1
    · exact runsOk_mem h.2.2 p hp
theorem mem_expand {rs : List (Int × Nat)} {p : Int × Nat} (hp : p ∈ rs) (h1 : 1 ≤ p.2) : p.1 ∈ expand rs := by
  unfold expand
  rw [List.mem_flatMap]
  exact ⟨p, hp, by simp; omega⟩
theorem readTab_back (rest : List Nat) : ∀ (rs qs : List (Int × Nat)) (last : Int) (full : Bool), RunsOk (qs ++ rs) → (∀ p ∈ rs, 0 ≤ p.1) → After qs last full →
    readTab (expand (qs ++ rs)).length (rs.map runByte ++ rest) (expand qs) qs.length last full = some (expand (qs ++ rs), (qs ++ rs).length)
  | [], qs, last, full, h1, h0, h2 => by
    simp only [List.append_nil, List.map_nil, List.nil_append]
    cases rest with
    | nil => rw [readTab, if_neg (by omega)]
    | cons b bs => rw [readTab, if_neg (by omega)]
  | p :: rs, qs, last, full, h1, h0, h2 => by
    have hp := runsOk_mem h1 p (by simp)
    have hp0 := h0 p (by simp)
    have hbr : byteRun (runByte p) = p := byteRun_runByte hp0 hp.1 hp.2
    have e : qs ++ p :: rs = (qs ++ [p]) ++ rs := by simp
    have hlen : (expand (qs ++ p :: rs)).length = (expand qs).length + p.2 + (expand rs).length := by rw [expand_append, expand_cons]; simp; omega
    simp only [List.map_cons, List.cons_append]
    rw [readTab, if_pos (by omega), hbr, if_neg]
    · have ih := readTab_back rest rs (qs ++ [p]) p.1 (p.2 == 16) (by rw [← e]; exact h1) (fun q hq => h0 q (by simp [hq])) (by unfold After; simp)
      rw [e, show expand qs ++ List.replicate p.2 p.1 = expand (qs ++ [p]) by rw [expand_append]; simp [expand]]
      simpa using ih
    · rintro (⟨g1, g2⟩ | g)
      · have h3 := runsOk_front (a := qs ++ [p]) (b := rs) (by rw [← e]; exact h1)
        rw [runsOk_snoc] at h3
        unfold After at h2
        cases hg : qs.getLast? with
        | none => rw [hg] at h2; simp only at h2; rw [h2.2] at g2; cases g2
        | some q =>
          rw [hg] at h2
          simp only at h2
          have := h3.2.2 q hg (by rw [← h2.1, g1])
          rw [h2.2, this] at g2
          cases g2
      · omega
theorem readTab_tab {zs : List Int} (h : ∀ z ∈ zs, 0 ≤ z) (rest : List Nat) : readTab zs.length (tabBytes zs ++ rest) [] 0 (-1) true = some (zs, (tabBytes zs).length) := by
  have h1 := runsOk_tab _ zs (Nat.le_refl _)
  have he := expand_tabRuns _ zs (Nat.le_refl _)
  have := readTab_back rest (tabRuns zs) [] (-1) true h1 (fun p hp => h _ (by rw [← he]; exact mem_expand hp (runsOk_mem h1 p hp).1)) ⟨rfl, rfl⟩
  simp only [List.nil_append, he] at this
  rw [tabBytes]
  simpa [expand] using this
/-- What is read is read with more behind it. -/
theorem readTab_more (n : Nat) (e : List Nat) {x : List Int × Nat} : ∀ (bs : List Nat) (acc : List Int) (used : Nat) (last : Int) (full : Bool), readTab n bs acc used last full = some x → readTab n (bs ++ e) acc used last full = some x
  | [], acc, used, last, full, h => by
    rw [readTab] at h
    split at h
    · cases h
    · rename_i hl
      rw [List.nil_append]
      cases e with
      | nil => rw [readTab, if_neg hl]; exact h
      | cons b bs => rw [readTab, if_neg hl]; exact h
  | b :: bs, acc, used, last, full, h => by
    rw [readTab] at h
    rw [List.cons_append, readTab]
    split
    · rename_i hl
      rw [if_pos hl] at h
      split
      · rename_i hb; rw [if_pos hb] at h; cases h
      · rename_i hb; rw [if_neg hb] at h; exact readTab_more n e bs _ _ _ _ h
    · rename_i hl; rw [if_neg hl] at h; exact h
theorem readTab_used (n : Nat) {zs : List Int} {u : Nat} : ∀ (bs : List Nat) (acc : List Int) (used : Nat) (last : Int) (full : Bool), acc.length ≤ n → readTab n bs acc used last full = some (zs, u) → used ≤ u ∧ u ≤ used + bs.length ∧ zs.length = n ∧ ∀ z ∈ zs, z ∈ acc ∨ ∃ b ∈ bs, z = (byteRun b).1
  | [], acc, used, last, full, ha, h => by
    rw [readTab] at h
    split at h
    · cases h
    · injection h with h
      injection h with h1 h2
      subst h1; subst h2
      exact ⟨Nat.le_refl _, by simp, by omega, fun z hz => .inl hz⟩
  | b :: bs, acc, used, last, full, ha, h => by
    rw [readTab] at h
    split at h
    · split at h
      · cases h
      · rename_i hb
        obtain ⟨h1, h2, h3, h4⟩ := readTab_used n bs _ _ _ _ (by simp; omega) h
        refine ⟨by omega, by simp; omega, h3, fun z hz => ?_⟩
        rcases h4 z hz with h5 | ⟨c, hc, h5⟩
        · rcases List.mem_append.1 h5 with h6 | h6
          · exact .inl h6
          · exact .inr ⟨b, by simp, (List.mem_replicate.1 h6).2⟩
        · exact .inr ⟨c, by simp [hc], h5⟩
    · injection h with h
      injection h with h1 h2
      subst h1; subst h2
      exact ⟨Nat.le_refl _, by simp, by omega, fun z hz => .inl hz⟩
theorem tabBytes_len_le (zs : List Int) : (tabBytes zs).length ≤ zs.length := by
  have h1 := runsOk_tab _ zs (Nat.le_refl _)
  have he := expand_tabRuns _ zs (Nat.le_refl _)
  have key : ∀ (rs : List (Int × Nat)), (∀ p ∈ rs, 1 ≤ p.2) → rs.length ≤ (expand rs).length := by
    intro rs
    induction rs with
    | nil => intro _; simp
    | cons p rs ih =>
      intro h
      rw [expand_cons]
      have := ih fun q hq => h q (by simp [hq])
      have := h p (by simp)
      simp
      omega
  have := key (tabRuns zs) fun p hp => (runsOk_mem h1 p hp).1
  rw [he] at this
  simpa [tabBytes] using this
end Go.Rlm
end

section
namespace Go.Rlm
def okLen (zs : List Int) : Bool := zs.all fun z => decide (0 ≤ z) && decide (z ≤ 15)
theorem okLen_mem {zs : List Int} (h : okLen zs = true) {z : Int} (hz : z ∈ zs) : 0 ≤ z ∧ z ≤ 15 := by
  have := List.all_eq_true.1 h z hz
  simpa using this
theorem okLen_cons {z : Int} {zs : List Int} : okLen (z :: zs) = true ↔ (0 ≤ z ∧ z ≤ 15) ∧ okLen zs = true := by simp [okLen]
def cnt (zs : List Int) (n : Nat) : Nat := zs.count (n : Int)
@[simp] theorem cnt_nil (n : Nat) : cnt [] n = 0 := rfl
theorem cnt_cons (z : Int) (zs : List Int) (n : Nat) : cnt (z :: zs) n = cnt zs n + (if z = (n : Int) then 1 else 0) := by
  simp [cnt, List.count_cons]
theorem cnt_append (a b : List Int) (n : Nat) : cnt (a ++ b) n = cnt a n + cnt b n := by simp [cnt]
theorem cnt_snoc (a : List Int) (z : Int) (n : Nat) : cnt (a ++ [z]) n = cnt a n + (if z = (n : Int) then 1 else 0) := by
  rw [cnt_append, cnt_cons]; simp
theorem cnt_le (zs : List Int) (n : Nat) : cnt zs n ≤ zs.length := List.count_le_length
theorem cnt_take_le (zs : List Int) (i n : Nat) : cnt (zs.take i) n ≤ cnt zs n := by
  have := cnt_append (zs.take i) (zs.drop i) n
  rw [List.take_append_drop] at this
  omega
theorem take_succ_int {zs : List Int} {i : Nat} (h : i < zs.length) : zs.take (i + 1) = zs.take i ++ [zs[i]] := by
  rw [List.take_succ_eq_append_getElem h]
theorem cnt_take_succ {zs : List Int} {i : Nat} (h : i < zs.length) (n : Nat) : cnt (zs.take (i + 1)) n = cnt (zs.take i) n + (if zs[i] = (n : Int) then 1 else 0) := by
  rw [take_succ_int h, cnt_snoc]
/-- By how many 2^-15 the lengths 1 .. k fill a code. -/
def fillTo (zs : List Int) : Nat → Nat
  | 0 => 0
  | k + 1 => fillTo zs k + cnt zs (k + 1) * 2 ^ (15 - (k + 1))
def usedTo (zs : List Int) : Nat → Nat
  | 0 => 0
  | k + 1 => usedTo zs k + cnt zs (k + 1)
theorem fillTo_nil (k : Nat) : fillTo [] k = 0 := by induction k <;> simp [fillTo, *]
theorem usedTo_nil (k : Nat) : usedTo [] k = 0 := by induction k <;> simp [usedTo, *]
theorem fillTo_cons (z : Int) (zs : List Int) (k : Nat) : fillTo (z :: zs) k = fillTo zs k + (if 1 ≤ z ∧ z ≤ (k : Int) then 2 ^ (15 - z.toNat) else 0) := by
  induction k with
  | zero => simp [fillTo]; omega
  | succ k ih =>
    simp only [fillTo, ih, cnt_cons]
    by_cases h1 : z = ((k + 1 : Nat) : Int)
    · subst h1
      rw [if_pos rfl, if_neg (by omega), if_pos (by omega), Int.toNat_natCast, Nat.add_mul]
      omega
    · rw [if_neg h1]
      by_cases h2 : 1 ≤ z ∧ z ≤ (k : Int)
      · rw [if_pos h2, if_pos (by omega)]; simp only [Nat.add_zero]; omega
      · rw [if_neg h2, if_neg (by omega)]; simp
theorem usedTo_cons (z : Int) (zs : List Int) (k : Nat) : usedTo (z :: zs) k = usedTo zs k + (if 1 ≤ z ∧ z ≤ (k : Int) then 1 else 0) := by
  induction k with
  | zero => simp [usedTo]; omega
  | succ k ih =>
    simp only [usedTo, ih, cnt_cons]
    by_cases h1 : z = ((k + 1 : Nat) : Int)
    · subst h1
      rw [if_pos rfl, if_neg (by omega), if_pos (by omega)]
      omega
    · rw [if_neg h1]
      by_cases h2 : 1 ≤ z ∧ z ≤ (k : Int)
      · rw [if_pos h2, if_pos (by omega)]; omega
      · rw [if_neg h2, if_neg (by omega)]; omega
/-- The same, number by number. -/
def fillE (zs : List Int) : Nat := (zs.map fun z => if 0 < z then 2 ^ (15 - z.toNat) else 0).sum
def usedE (zs : List Int) : Nat := (zs.map fun z => if 0 < z then 1 else 0).sum
theorem fillE_eq {zs : List Int} (h : okLen zs = true) : fillE zs = fillTo zs 15 := by
  induction zs with
  | nil => simp [fillE, fillTo_nil]
  | cons z zs ih =>
    obtain ⟨h1, h2⟩ := okLen_cons.1 h
    rw [fillTo_cons, ← ih h2]
    simp only [fillE, List.map_cons, List.sum_cons]
    by_cases hz : 0 < z
    · rw [if_pos hz, if_pos (by omega)]; omega
    · rw [if_neg hz, if_neg (by omega)]; omega
theorem usedE_eq {zs : List Int} (h : okLen zs = true) : usedE zs = usedTo zs 15 := by
  induction zs with
  | nil => simp [usedE, usedTo_nil]
  | cons z zs ih =>
    obtain ⟨h1, h2⟩ := okLen_cons.1 h
    rw [usedTo_cons, ← ih h2]
    simp only [usedE, List.map_cons, List.sum_cons]
    by_cases hz : 0 < z
    · rw [if_pos hz, if_pos (by omega)]; omega
    · rw [if_neg hz, if_neg (by omega)]; omega
theorem fillE_le (zs : List Int) : fillE zs ≤ zs.length * 2 ^ 15 := by
  induction zs with
  | nil => simp [fillE]
  | cons z zs ih =>
    simp only [fillE, List.map_cons, List.sum_cons, List.length_cons, Nat.add_mul, Nat.one_mul] at ih ⊢
    have : (if 0 < z then 2 ^ (15 - z.toNat) else 0) ≤ 2 ^ 15 := by
      split
      · exact Nat.pow_le_pow_right (by omega) (by omega)
      · omega
    omega
theorem usedE_le (zs : List Int) : usedE zs ≤ zs.length := by
  induction zs with
  | nil => simp [usedE]
  | cons z zs ih =>
    simp only [usedE, List.map_cons, List.sum_cons, List.length_cons] at ih ⊢
    have : (if 0 < z then 1 else 0) ≤ 1 := by split <;> omega
    omega
theorem fillTo_le {zs : List Int} (h : okLen zs = true) (k : Nat) (hk : k ≤ 15) : fillTo zs k ≤ zs.length * 2 ^ 15 := by
  have mono : ∀ a b, a ≤ b → fillTo zs a ≤ fillTo zs b := by
    intro a b hab
    induction hab with
    | refl => exact Nat.le_refl _
    | step _ ih => exact Nat.le_trans ih (by simp [fillTo])
  have := mono k 15 hk
  rw [← fillE_eq h] at this
  exact Nat.le_trans this (fillE_le zs)
theorem fillTo_mono (zs : List Int) {a b : Nat} (hab : a ≤ b) : fillTo zs a ≤ fillTo zs b := by
  induction hab with
  | refl => exact Nat.le_refl _
  | step _ ih => exact Nat.le_trans ih (by simp [fillTo])
theorem usedTo_le {zs : List Int} (h : okLen zs = true) (k : Nat) (hk : k ≤ 15) : usedTo zs k ≤ zs.length := by
  have mono : ∀ a b, a ≤ b → usedTo zs a ≤ usedTo zs b := by
    intro a b hab
    induction hab with
    | refl => exact Nat.le_refl _
    | step _ ih => exact Nat.le_trans ih (by simp [usedTo])
  have := mono k 15 hk
  rw [← usedE_eq h] at this
  exact Nat.le_trans this (usedE_le zs)
/-- May these be a code's lengths? -/
def may (zs : List Int) : Bool :=
  okLen zs && decide (zs.length ≤ 512) && (decide (fillTo zs 15 = 0) || decide (fillTo zs 15 = 32768) || (decide (usedTo zs 15 = 1) && decide (fillTo zs 15 = 16384)))
theorem may_ok {zs : List Int} (h : may zs = true) : okLen zs = true ∧ zs.length ≤ 512 ∧ fillTo zs 15 ≤ 32768 := by
  simp only [may, Bool.and_eq_true, Bool.or_eq_true, decide_eq_true_eq] at h
  obtain ⟨⟨h1, h2⟩, h3⟩ := h
  exact ⟨h1, h2, by omega⟩
/-- The first code of a length. -/
def fc (zs : List Int) : Nat → Nat
  | 0 => 0
  | 1 => 0
  | n + 2 => (fc zs (n + 1) + cnt zs (n + 1)) * 2
theorem fc_fill (zs : List Int) (n : Nat) (hn : n < 15) : fc zs (n + 1) * 2 ^ (15 - (n + 1)) = fillTo zs n := by
  induction n with
  | zero => simp [fc, fillTo]
  | succ n ih =>
    have := ih (by omega)
    simp only [fc, fillTo]
    rw [← this, show 15 - (n + 1) = 15 - (n + 1 + 1) + 1 by omega, Nat.pow_succ]
    rw [← Nat.add_mul, Nat.mul_assoc, Nat.mul_comm 2]
theorem fc_cnt {zs : List Int} (h : fillTo zs 15 ≤ 32768) (n : Nat) (hn : n < 15) : fc zs (n + 1) + cnt zs (n + 1) ≤ 2 ^ (n + 1) := by
  have h1 := fc_fill zs n hn
  have h2 := fillTo_mono zs (show n + 1 ≤ 15 by omega)
  rw [show fillTo zs (n + 1) = fillTo zs n + cnt zs (n + 1) * 2 ^ (15 - (n + 1)) from rfl] at h2
  have h3 : (fc zs (n + 1) + cnt zs (n + 1)) * 2 ^ (15 - (n + 1)) ≤ 2 ^ (n + 1) * 2 ^ (15 - (n + 1)) := by
    rw [Nat.add_mul, h1, ← Nat.pow_add, show n + 1 + (15 - (n + 1)) = 15 by omega]
    omega
  exact Nat.le_of_mul_le_mul_right h3 (Nat.two_pow_pos _)
theorem fc_le {zs : List Int} (h : fillTo zs 15 ≤ 32768) (n : Nat) (hn : n ≤ 16) : fc zs n ≤ 65536 := by
  match n with
  | 0 => simp [fc]
  | 1 => simp [fc]
  | n + 2 =>
    have := fc_cnt h n (by omega)
    have hp : 2 ^ (n + 1) ≤ 2 ^ 15 := Nat.pow_le_pow_right (by omega) (by omega)
    simp only [fc]
    omega
theorem fc_cnt_le {zs : List Int} (h : fillTo zs 15 ≤ 32768) (n : Nat) (h1 : 1 ≤ n) (hn : n ≤ 15) : fc zs n + cnt zs n ≤ 2 ^ n := by
  obtain ⟨m, rfl⟩ : ∃ m, n = m + 1 := ⟨n - 1, by omega⟩
  exact fc_cnt h m (by omega)
/-- A symbol's code. -/
def codeAt (zs : List Int) (i : Nat) : Nat := if 0 < zs.getD i 0 then fc zs (zs.getD i 0).toNat + cnt (zs.take i) (zs.getD i 0).toNat else 0
def codesOf (zs : List Int) : List Nat := (List.range zs.length).map (codeAt zs)
@[simp] theorem codesOf_length (zs : List Int) : (codesOf zs).length = zs.length := by simp [codesOf]
theorem codesOf_get {zs : List Int} {i : Nat} (h : i < zs.length) : (codesOf zs)[i]? = some (codeAt zs i) := by simp [codesOf, h]
theorem cnt_take_lt {zs : List Int} {i : Nat} (h : i < zs.length) {n : Nat} (hz : zs[i] = (n : Int)) : cnt (zs.take i) n < cnt zs n := by
  have h1 := cnt_take_succ h n
  have h2 := cnt_take_le zs (i + 1) n
  rw [if_pos hz] at h1
  omega
/-- A code fits its length. -/
theorem codeAt_lt {zs : List Int} (hm : may zs = true) {i : Nat} (h : i < zs.length) (hz : 0 < zs[i]) : codeAt zs i < 2 ^ zs[i].toNat := by
  obtain ⟨h1, h2, h3⟩ := may_ok hm
  have hr := okLen_mem h1 (List.getElem_mem h)
  have hd : zs.getD i 0 = zs[i] := by rw [List.getD_eq_getElem?_getD, List.getElem?_eq_getElem h]; rfl
  have := fc_cnt_le h3 zs[i].toNat (by omega) (by omega)
  have := cnt_take_lt h (n := zs[i].toNat) (by omega)
  unfold codeAt
  rw [hd, if_pos hz]
  omega
theorem codeAt_le {zs : List Int} (hm : may zs = true) (i : Nat) : codeAt zs i < 65536 := by
  by_cases h : i < zs.length
  · by_cases hz : 0 < zs[i]
    · have h1 := codeAt_lt hm h hz
      have hr := okLen_mem (may_ok hm).1 (List.getElem_mem h)
      have : 2 ^ zs[i].toNat ≤ 2 ^ 15 := Nat.pow_le_pow_right (by omega) (by omega)
      omega
    · unfold codeAt
      rw [List.getD_eq_getElem?_getD, List.getElem?_eq_getElem h, Option.getD_some, if_neg hz]
      omega
  · unfold codeAt
    rw [List.getD_eq_getElem?_getD, List.getElem?_eq_none (by omega)]
    simp
end Go.Rlm
end

section
namespace Go.Rlm
/-- The symbols of a length, in their row, of the first i. -/
def symsTo (zs : List Int) (i n : Nat) : List Nat := (List.range i).filter fun q => zs.getD q 0 == (n : Int)
def symsOf (zs : List Int) (n : Nat) : List Nat := symsTo zs zs.length n
theorem symsTo_succ {zs : List Int} {i : Nat} (h : i < zs.length) (n : Nat) : symsTo zs (i + 1) n = symsTo zs i n ++ (if zs[i] = (n : Int) then [i] else []) := by
  have hd : zs.getD i 0 = zs[i] := by rw [List.getD_eq_getElem?_getD, List.getElem?_eq_getElem h]; rfl
  simp only [symsTo, List.range_succ, List.filter_append, List.filter_cons, List.filter_nil, hd]
  by_cases hz : zs[i] = (n : Int)
  · rw [if_pos hz, if_pos (by simpa using hz)]
  · rw [if_neg hz, if_neg (by simpa using hz)]
theorem symsTo_length_le (zs : List Int) (i n : Nat) : (symsTo zs i n).length ≤ i := by
  have := List.length_filter_le (fun q => zs.getD q 0 == (n : Int)) (List.range i)
  simpa [symsTo] using this
theorem symsTo_length {zs : List Int} {i : Nat} (h : i ≤ zs.length) (n : Nat) : (symsTo zs i n).length = cnt (zs.take i) n := by
  induction i with
  | zero => simp [symsTo]
  | succ i ih =>
    rw [symsTo_succ (by omega), List.length_append, ih (by omega), cnt_take_succ (by omega)]
    split <;> simp
theorem symsOf_length (zs : List Int) (n : Nat) : (symsOf zs n).length = cnt zs n := by
  rw [symsOf, symsTo_length (Nat.le_refl _), List.take_length]
theorem symsTo_front (zs : List Int) {i j n : Nat} (h : i ≤ j) : symsTo zs i n <+: symsTo zs j n := by
  obtain ⟨d, rfl⟩ := Nat.exists_eq_add_of_le h
  have : List.range (i + d) = List.range i ++ (List.range d).map (i + ·) := List.range_add
  simp only [symsTo, this, List.filter_append]
  exact List.prefix_append _ _
theorem symsOf_get {zs : List Int} {i n : Nat} (h : i < zs.length) (hz : zs[i] = (n : Int)) : (symsOf zs n)[cnt (zs.take i) n]? = some i := by
  obtain ⟨t, ht⟩ := symsTo_front zs (n := n) (show i + 1 ≤ zs.length by omega)
  rw [symsOf, ← ht, symsTo_succ h, if_pos hz, List.append_assoc, List.getElem?_append_right (by rw [symsTo_length (by omega)]; exact Nat.le_refl _), symsTo_length (by omega)]
  simp
theorem symsOf_mem {zs : List Int} {n i : Nat} (h : i ∈ symsOf zs n) : i < zs.length ∧ zs.getD i 0 = (n : Int) := by
  simp only [symsOf, symsTo, List.mem_filter, List.mem_range] at h
  exact ⟨h.1, by simpa using h.2⟩
/-- Where one stands, that many stand ahead. -/
theorem symsOf_at {zs : List Int} {n x i : Nat} (h : (symsOf zs n)[x]? = some i) : i < zs.length ∧ zs.getD i 0 = (n : Int) ∧ cnt (zs.take i) n = x := by
  obtain ⟨h1, h2⟩ := symsOf_mem (List.mem_of_getElem? h)
  refine ⟨h1, h2, ?_⟩
  have hd : zs[i] = (n : Int) := by rw [← h2, List.getD_eq_getElem?_getD, List.getElem?_eq_getElem h1]; rfl
  have h3 := symsOf_get h1 hd
  have hnd := List.pairwise_iff_getElem.1 (List.Pairwise.filter (fun q => zs.getD q 0 == (n : Int)) (List.nodup_range (n := zs.length)))
  have l1 : x < (symsOf zs n).length := (List.getElem?_eq_some_iff.1 h).1
  have l2 : cnt (zs.take i) n < (symsOf zs n).length := (List.getElem?_eq_some_iff.1 h3).1
  rw [List.getElem?_eq_getElem l1] at h
  rw [List.getElem?_eq_getElem l2] at h3
  have he := Option.some.inj (h3.trans h.symm)
  rcases Nat.lt_trichotomy (cnt (zs.take i) n) x with q | q | q
  · exact absurd he (hnd _ _ l2 l1 q)
  · exact q
  · exact absurd he.symm (hnd _ _ l1 l2 q)
/-- A symbol's bits. -/
def symBits (zs : List Int) (i : Nat) : List Bool := bitsOf (codeAt zs i) (zs.getD i 0).toNat
/-- What stands behind n - 1 bits of value c: a symbol, and the bits behind it. -/
def dec (zs : List Int) : Nat → Nat → Nat → List Bool → Option Nat × List Bool
  | 0, _, _, r => (none, r)
  | _ + 1, _, _, [] => (none, [])
  | m + 1, n, c, x :: r =>
    if fc zs n ≤ c * 2 + x.toNat ∧ c * 2 + x.toNat - fc zs n < (symsOf zs n).length then ((symsOf zs n)[c * 2 + x.toNat - fc zs n]?, r)
    else dec zs m (n + 1) (c * 2 + x.toNat) r
def readSym (zs : List Int) (r : List Bool) : Option Nat × List Bool := dec zs 15 1 0 r
theorem fc_step {zs : List Int} {n : Nat} (hn : 0 < n) : fc zs (n + 1) = (fc zs n + cnt zs n) * 2 := by
  obtain ⟨m, rfl⟩ : ∃ m, n = m + 1 := ⟨n - 1, by omega⟩
  rfl
theorem fc_far {zs : List Int} {n : Nat} (hn : 0 < n) (d : Nat) : (fc zs n + cnt zs n) * 2 ^ (d + 1) ≤ fc zs (n + (d + 1)) := by
  induction d with
  | zero => rw [fc_step hn]; simp
  | succ d ih =>
    rw [show n + (d + 1 + 1) = n + (d + 1) + 1 by omega, fc_step (by omega), Nat.pow_succ, ← Nat.mul_assoc]
    exact Nat.mul_le_mul_right _ (Nat.le_trans ih (Nat.le_add_right _ _))
/-- A code is read az its symbol. -/
theorem dec_code {zs : List Int} {i len : Nat} (hi : i < zs.length) (hz : zs[i] = (len : Int)) (hl : 0 < len) (h15 : len ≤ 15) (rest : List Bool) :
    ∀ (d n m : Nat), 0 < n → n + d = len → d < m → dec zs m n (codeAt zs i / 2 ^ (d + 1)) (bitsOf (codeAt zs i) (d + 1) ++ rest) = (some i, rest) := by
  have hg : zs.getD i 0 = (len : Int) := by rw [List.getD_eq_getElem?_getD, List.getElem?_eq_getElem hi]; simpa using hz
  have hcode : codeAt zs i = fc zs len + cnt (zs.take i) len := by unfold codeAt; rw [hg, if_pos (by omega), Int.toNat_natCast]
  intro d
  induction d with
  | zero =>
    intro n m hn hnd hm
    obtain ⟨m, rfl⟩ : ∃ m', m = m' + 1 := ⟨m - 1, by omega⟩
    obtain rfl : n = len := by omega
    rw [bitsOf_succ, bitsOf_zero]
    have hx : codeAt zs i / 2 ^ (0 + 1) * 2 + ((codeAt zs i).testBit 0).toNat = codeAt zs i := by
      rw [Nat.testBit_zero]
      rcases Nat.mod_two_eq_zero_or_one (codeAt zs i) with h | h <;> simp [h] <;> omega
    simp only [List.cons_append, List.nil_append, dec, hx]
    have hlt := cnt_take_lt hi hz
    rw [if_pos (by rw [symsOf_length]; omega), show codeAt zs i - fc zs n = cnt (zs.take i) n by omega, symsOf_get hi hz]
  | succ d ih =>
    intro n m hn hnd hm
    obtain ⟨m, rfl⟩ : ∃ m', m = m' + 1 := ⟨m - 1, by omega⟩
    rw [bitsOf_succ]
    have hx : codeAt zs i / 2 ^ (d + 1 + 1) * 2 + ((codeAt zs i).testBit (d + 1)).toNat = codeAt zs i / 2 ^ (d + 1) := by
      rw [Nat.testBit_eq_decide_div_mod_eq, Nat.pow_succ 2 (d + 1), ← Nat.div_div_eq_div_mul]
      generalize codeAt zs i / 2 ^ (d + 1) = y
      rcases Nat.mod_two_eq_zero_or_one y with h | h <;> simp [h] <;> omega
    simp only [List.cons_append, dec, hx]
    have hge : fc zs n + cnt zs n ≤ codeAt zs i / 2 ^ (d + 1) := by
      rw [Nat.le_div_iff_mul_le (Nat.two_pow_pos _)]
      have := fc_far (zs := zs) hn d
      rw [show n + (d + 1) = len by omega] at this
      omega
    rw [if_neg (by rw [symsOf_length]; omega)]
    exact ih (n + 1) m (by omega) (by omega) (by omega)
theorem readSym_code {zs : List Int} (hm : may zs = true) {i : Nat} (hi : i < zs.length) (hz : 0 < zs[i]) (rest : List Bool) : readSym zs (symBits zs i ++ rest) = (some i, rest) := by
  obtain ⟨hok, _, _⟩ := may_ok hm
  have hr := okLen_mem hok (List.getElem_mem hi)
  have hg : zs.getD i 0 = zs[i] := by rw [List.getD_eq_getElem?_getD, List.getElem?_eq_getElem hi]; rfl
  obtain ⟨d, hd⟩ : ∃ d : Nat, zs[i] = ((d + 1 : Nat) : Int) := ⟨zs[i].toNat - 1, by omega⟩
  have hlt := codeAt_lt hm hi hz
  have := dec_code (len := d + 1) hi hd (by omega) (by omega) rest d 1 15 (by omega) (by omega) (by omega)
  rw [hd, Int.toNat_natCast] at hlt
  rw [Nat.div_eq_of_lt hlt] at this
  rw [readSym, symBits, hg, hd, Int.toNat_natCast]
  exact this
/-- What is read az a symbol are its bits. -/
theorem dec_some {zs : List Int} : ∀ (m n c : Nat) (r : List Bool) (i : Nat) (rest : List Bool) (p : List Bool), 0 < n → p.length + 1 = n → bitNum p = c → dec zs m n c r = (some i, rest) → i < zs.length ∧ 0 < zs.getD i 0 ∧ p ++ r = symBits zs i ++ rest := by
  intro m
  induction m with
  | zero => intro n c r i rest p hn hp hc h; simp [dec] at h
  | succ m ih =>
    intro n c r i rest p hn hp hc h
    cases r with
    | nil => simp [dec] at h
    | cons x r =>
      have hc' : bitNum (p ++ [x]) = c * 2 + x.toNat := by rw [bitNum_snoc, hc]
      simp only [dec] at h
      split at h
      · rename_i hcond
        simp only [Prod.mk.injEq] at h
        obtain ⟨h1, rfl⟩ := h
        obtain ⟨g1, g2, g3⟩ := symsOf_at h1
        refine ⟨g1, by omega, ?_⟩
        have hcode : codeAt zs i = c * 2 + x.toNat := by
          unfold codeAt
          rw [g2, if_pos (by omega), Int.toNat_natCast]
          omega
        rw [symBits, hcode, g2, Int.toNat_natCast, ← hc', show n = (p ++ [x]).length by simp; omega, bitsOf_bitNum]
        simp
      · have := ih (n + 1) _ r i rest (p ++ [x]) (by omega) (by simp; omega) hc' h
        simpa using this
theorem readSym_some {zs : List Int} {r : List Bool} {i : Nat} {rest : List Bool} (h : readSym zs r = (some i, rest)) : i < zs.length ∧ 0 < zs.getD i 0 ∧ r = symBits zs i ++ rest := by
  have := dec_some 15 1 0 r i rest [] (by omega) rfl rfl h
  simpa using this
end Go.Rlm
end

section
namespace Go.Rlm
inductive HT where
  | leaf (w : Nat) (i : Nat)
  | node (l r : HT)
def HT.wt : HT → Nat
  | .leaf w _ => w
  | .node l r => l.wt + r.wt
def HT.syms : HT → List Nat
  | .leaf _ i => [i]
  | .node l r => l.syms ++ r.syms
def HT.height : HT → Nat
  | .leaf _ _ => 0
  | .node l r => max l.height r.height + 1
/-- The depths are laid into a row. -/
def HT.lay : HT → Nat → List Int → List Int
  | .leaf _ i, n, out => out.set i (n : Int)
  | .node l r, n, out => r.lay (n + 1) (l.lay (n + 1) out)
@[simp] theorem HT.lay_length (t : HT) (n : Nat) (out : List Int) : (t.lay n out).length = out.length := by
  induction t generalizing n out with
  | leaf w i => simp [lay]
  | node l r ihl ihr => simp [lay, ihl, ihr]
def minLoop (ws : List Nat) : Nat → Nat → Nat → Nat
  | 0, _, a => a
  | m + 1, i, a => minLoop ws m (i + 1) (if ws.getD i 0 < ws.getD a 0 then i else a)
def minAt (ws : List Nat) : Nat := minLoop ws ws.length 0 0
def FirstMin (ws : List Nat) (n a : Nat) : Prop := a < n ∧ (∀ q, q < n → ws.getD a 0 ≤ ws.getD q 0) ∧ ∀ q, q < a → ws.getD a 0 < ws.getD q 0
theorem minLoop_spec {ws : List Nat} : ∀ (m i a : Nat), 0 < i → FirstMin ws i a → FirstMin ws (i + m) (minLoop ws m i a) := by
  intro m
  induction m with
  | zero => intro i a _ h; exact h
  | succ m ih =>
    intro i a hi h
    rw [show i + (m + 1) = i + 1 + m by omega]
    refine ih (i + 1) _ (by omega) ?_
    obtain ⟨h1, h2, h3⟩ := h
    by_cases hw : ws.getD i 0 < ws.getD a 0
    · rw [if_pos hw]
      refine ⟨by omega, fun q hq => ?_, fun q hq => ?_⟩
      · by_cases h : q = i
        · rw [h]; exact Nat.le_refl _
        · have := h2 q (by omega); omega
      · have := h2 q hq; omega
    · rw [if_neg hw]
      refine ⟨by omega, fun q hq => ?_, h3⟩
      by_cases h : q = i
      · rw [h]; omega
      · exact h2 q (by omega)
theorem minAt_spec {ws : List Nat} (h : ws ≠ []) : FirstMin ws ws.length (minAt ws) := by
  obtain ⟨n, hn⟩ : ∃ n, ws.length = n + 1 := ⟨ws.length - 1, by cases ws; exact absurd rfl h; simp⟩
  unfold minAt
  rw [hn]
  simp only [minLoop]
  have := minLoop_spec (ws := ws) n 1 0 (by omega) ⟨by omega, fun q hq => by rw [show q = 0 by omega]; exact Nat.le_refl _, fun q hq => by omega⟩
  rw [if_neg (by omega), show n + 1 = 1 + n by omega]
  exact this
theorem FirstMin.unique {ws : List Nat} {n a b : Nat} (h : FirstMin ws n a) (k : FirstMin ws n b) : a = b := by
  rcases Nat.lt_trichotomy a b with h1 | h1 | h1
  · have := k.2.2 a h1
    have := h.2.1 b k.1
    omega
  · exact h1
  · have := h.2.2 b h1
    have := k.2.1 a h.1
    omega
def least (ts : List HT) : Nat := minAt (ts.map HT.wt)
def dflt : HT := .leaf 0 0
def pick (ts : List HT) : HT := ts.getD (least ts) dflt
def rest (ts : List HT) : List HT := ts.eraseIdx (least ts)
def join (ts : List HT) : List HT := rest (rest ts) ++ [.node (pick ts) (pick (rest ts))]
def joinAll : Nat → List HT → List HT
  | 0, ts => ts
  | n + 1, ts => joinAll n (join ts)
theorem least_lt {ts : List HT} (h : ts ≠ []) : least ts < ts.length := by
  have := (minAt_spec (ws := ts.map HT.wt) (by simpa using h)).1
  simpa [least] using this
theorem wt_getD (ts : List HT) (i : Nat) (h : i < ts.length) : (ts.map HT.wt).getD i 0 = (ts.getD i dflt).wt := by
  simp [List.getD_eq_getElem?_getD, h]
theorem pick_le {ts : List HT} {t : HT} (ht : t ∈ ts) : (pick ts).wt ≤ t.wt := by
  have hne : ts ≠ [] := List.ne_nil_of_mem ht
  obtain ⟨q, hq, rfl⟩ := List.getElem_of_mem ht
  obtain ⟨h1, h2, h3⟩ := minAt_spec (ws := ts.map HT.wt) (by simpa using hne)
  have := h2 q (by simpa using hq)
  rw [wt_getD ts q hq, wt_getD ts _ (by simpa using h1)] at this
  simpa [pick, least, List.getD_eq_getElem?_getD, hq] using this
theorem pick_mem {ts : List HT} (h : ts ≠ []) : pick ts ∈ ts := by
  have := least_lt h
  rw [pick, List.getD_eq_getElem?_getD, List.getElem?_eq_getElem this]
  exact List.getElem_mem this
theorem rest_length {ts : List HT} (h : ts ≠ []) : (rest ts).length = ts.length - 1 := by
  rw [rest, List.length_eraseIdx_of_lt (least_lt h)]
theorem rest_sub {ts : List HT} {t : HT} (h : t ∈ rest ts) : t ∈ ts := List.mem_of_mem_eraseIdx h
theorem join_length {ts : List HT} (h : 2 ≤ ts.length) : (join ts).length = ts.length - 1 := by
  have h1 : ts ≠ [] := by intro h0; subst h0; simp at h
  have h2 : rest ts ≠ [] := by intro h0; have := rest_length h1; rw [h0] at this; simp at this; omega
  simp only [join, List.length_append, List.length_singleton, rest_length h2, rest_length h1]
  omega
theorem joinAll_length : ∀ (n : Nat) (ts : List HT), ts.length = n + 1 → (joinAll n ts).length = 1
  | 0, ts, h => h
  | n + 1, ts, h => by
    simp only [joinAll]
    exact joinAll_length n _ (by rw [join_length (by omega)]; omega)
/-- What holds of all trees stays. -/
theorem join_all {p : HT → Prop} {ts : List HT} (h2 : 2 ≤ ts.length) (h : ∀ t ∈ ts, p t) (hn : ∀ a b, p a → p b → p (.node a b)) : ∀ t ∈ join ts, p t := by
  have h1 : ts ≠ [] := by intro h0; subst h0; simp at h2
  have h3 : rest ts ≠ [] := by intro h0; have := rest_length h1; rw [h0] at this; simp at this; omega
  intro t ht
  rcases List.mem_append.1 ht with ht | ht
  · exact h t (rest_sub (rest_sub ht))
  · simp at ht
    subst ht
    exact hn _ _ (h _ (pick_mem h1)) (h _ (rest_sub (pick_mem h3)))
def total (ts : List HT) : Nat := (ts.map HT.wt).sum
theorem sum_erase {ts : List HT} (f : HT → Nat) {i : Nat} (h : i < ts.length) : ((ts.eraseIdx i).map f).sum + f ts[i] = (ts.map f).sum := by
  induction ts generalizing i with
  | nil => simp at h
  | cons t ts ih =>
    cases i with
    | zero => simp [Nat.add_comm]
    | succ i =>
      have := ih (i := i) (by simpa using h)
      simp only [List.eraseIdx_cons_succ, List.map_cons, List.sum_cons, List.getElem_cons_succ]
      omega
theorem sum_rest {ts : List HT} (f : HT → Nat) (h : ts ≠ []) : ((rest ts).map f).sum + f (pick ts) = (ts.map f).sum := by
  have hl := least_lt h
  have := sum_erase f hl
  rw [pick, List.getD_eq_getElem?_getD, List.getElem?_eq_getElem hl]
  exact this
theorem sum_join {ts : List HT} (f : HT → Nat) (h2 : 2 ≤ ts.length) : ((join ts).map f).sum + f (pick ts) + f (pick (rest ts)) = (ts.map f).sum + f (.node (pick ts) (pick (rest ts))) := by
  have h1 : ts ≠ [] := by intro h0; subst h0; simp at h2
  have h3 : rest ts ≠ [] := by intro h0; have := rest_length h1; rw [h0] at this; simp at this; omega
  have a := sum_rest f h1
  have b := sum_rest f h3
  simp only [join, List.map_append, List.sum_append, List.map_cons, List.map_nil, List.sum_cons, List.sum_nil]
  omega
theorem join_total {ts : List HT} (h2 : 2 ≤ ts.length) : total (join ts) = total ts := by
  have := sum_join HT.wt h2
  simp only [HT.wt] at this
  simp only [total]
  omega
def leavesFrom : Nat → List Int → List HT
  | _, [] => []
  | i, f :: fs => if f > 0 then .leaf f.toNat i :: leavesFrom (i + 1) fs else leavesFrom (i + 1) fs
def lensOf (fs : List Int) : List Int :=
  match leavesFrom 0 fs with
  | [] => List.replicate fs.length 0
  | [t] => t.lay 1 (List.replicate fs.length 0)
  | ts =>
    match joinAll (ts.length - 1) ts with
    | t :: _ => t.lay 0 (List.replicate fs.length 0)
    | [] => List.replicate fs.length 0
def fits (zs : List Int) : Bool := zs.all fun z => decide (z ≤ 15)
def halve (fs : List Int) : List Int := fs.map fun f => (f + 1).tdiv 2
def lensLoop : Nat → List Int → List Int
  | 0, fs => lensOf fs
  | n + 1, fs => if fits (lensOf fs) then lensOf fs else lensLoop n (halve fs)
def lengthsOf (fs : List Int) : List Int := lensLoop 30 fs
theorem leavesFrom_snoc (fs : List Int) (f : Int) (i : Nat) : leavesFrom i (fs ++ [f]) = leavesFrom i fs ++ (if f > 0 then [.leaf f.toNat (i + fs.length)] else []) := by
  induction fs generalizing i with
  | nil => simp [leavesFrom]
  | cons g fs ih =>
    simp only [List.cons_append, leavesFrom, ih, List.length_cons]
    rw [show i + 1 + fs.length = i + (fs.length + 1) by omega]
    split <;> simp
theorem leavesFrom_length (fs : List Int) (i : Nat) : (leavesFrom i fs).length ≤ fs.length := by
  induction fs generalizing i with
  | nil => simp [leavesFrom]
  | cons g fs ih =>
    simp only [leavesFrom]
    have := ih (i + 1)
    split <;> simp <;> omega
theorem leavesFrom_leaf {fs : List Int} {i : Nat} {t : HT} (h : t ∈ leavesFrom i fs) : ∃ q, q < fs.length ∧ t = .leaf (fs.getD q 0).toNat (i + q) ∧ 0 < fs.getD q 0 := by
  induction fs generalizing i with
  | nil => simp [leavesFrom] at h
  | cons g fs ih =>
    have key : t ∈ leavesFrom (i + 1) fs → ∃ q, q < (g :: fs).length ∧ t = .leaf ((g :: fs).getD q 0).toNat (i + q) ∧ 0 < (g :: fs).getD q 0 := fun h => by
      obtain ⟨q, h1, h2, h3⟩ := ih h
      exact ⟨q + 1, by simpa using h1, by rw [h2, show i + 1 + q = i + (q + 1) by omega]; rfl, by simpa using h3⟩
    simp only [leavesFrom] at h
    split at h
    · rename_i hg
      rcases List.mem_cons.1 h with rfl | h
      · exact ⟨0, by simp, by simp, by simpa using hg⟩
      · exact key h
    · exact key h
theorem lensOf_length (fs : List Int) : (lensOf fs).length = fs.length := by
  unfold lensOf
  split
  · simp
  · simp
  · split <;> simp
theorem halve_length (fs : List Int) : (halve fs).length = fs.length := by simp [halve]
theorem lensLoop_length : ∀ (n : Nat) (fs : List Int), (lensLoop n fs).length = fs.length
  | 0, fs => lensOf_length fs
  | n + 1, fs => by
    simp only [lensLoop]
    split
    · exact lensOf_length fs
    · rw [lensLoop_length n, halve_length]
theorem lengthsOf_length (fs : List Int) : (lengthsOf fs).length = fs.length := lensLoop_length 30 fs
end Go.Rlm
end

section
namespace Go.Rlm
def fibo : Nat → Nat
  | 0 => 1
  | 1 => 2
  | n + 2 => fibo (n + 1) + fibo n
theorem fibo_mono {a b : Nat} (h : a ≤ b) : fibo a ≤ fibo b := by
  have step : ∀ n, fibo n ≤ fibo (n + 1) := by
    intro n
    match n with
    | 0 => decide
    | n + 1 => simp only [fibo]; omega
  induction h with
  | refl => exact Nat.le_refl _
  | step _ ih => exact Nat.le_trans ih (step _)
def HT.key : HT → Nat
  | .leaf _ _ => 0
  | .node l r => max l.wt r.wt
/-- Deep trees are heavy. -/
def Heavy (t : HT) : Prop := fibo t.height ≤ t.wt ∧ (0 < t.height → fibo (t.height - 1) ≤ t.key)
def Near (a b : HT) : Prop := a.key ≤ b.wt ∧ b.key ≤ a.wt
theorem pairwise_erase {ts : List HT} (h : ts.Pairwise Near) {i : Nat} (hi : i < ts.length) : ∀ u ∈ ts.eraseIdx i, Near ts[i] u := by
  induction ts generalizing i with
  | nil => simp at hi
  | cons t ts ih =>
    obtain ⟨h1, h2⟩ := List.pairwise_cons.1 h
    cases i with
    | zero => exact fun u hu => h1 u hu
    | succ i =>
      intro u hu
      simp only [List.eraseIdx_cons_succ] at hu
      simp only [List.getElem_cons_succ]
      rcases List.mem_cons.1 hu with rfl | hu
      · have hi' : i < ts.length := by simpa using hi
        have := h1 ts[i] (List.getElem_mem _)
        exact ⟨this.2, this.1⟩
      · exact ih h2 (by simpa using hi) u hu
theorem near_rest {ts : List HT} (h : ts.Pairwise Near) (hne : ts ≠ []) : (rest ts).Pairwise Near ∧ ∀ u ∈ rest ts, Near (pick ts) u := by
  refine ⟨h.sublist (List.eraseIdx_sublist _ _), fun u hu => ?_⟩
  have hl := least_lt hne
  have := pairwise_erase h hl u hu
  rw [pick, List.getD_eq_getElem?_getD, List.getElem?_eq_getElem hl]
  exact this
theorem heavy_node {a b : HT} (ha : Heavy a) (hb : Heavy b) (h : Near a b) : Heavy (.node a b) := by
  obtain ⟨a1, a2⟩ := ha
  obtain ⟨b1, b2⟩ := hb
  have pos : ∀ n, 1 ≤ fibo n := fun n => fibo_mono (Nat.zero_le n)
  have main : ∀ {x y : HT}, fibo x.height ≤ x.wt → (0 < x.height → fibo (x.height - 1) ≤ x.key) → fibo y.height ≤ y.wt → x.key ≤ y.wt → fibo (x.height + 1) ≤ x.wt + y.wt := by
    intro x y h1 h2 h3 h4
    match hx : x.height with
    | 0 =>
      rw [hx] at h1
      have := pos y.height
      simp only [fibo] at h1 ⊢
      omega
    | n + 1 =>
      rw [hx] at h1 h2
      have := h2 (by omega)
      change fibo n ≤ x.key at this
      change fibo (n + 1) ≤ x.wt at h1
      show fibo (n + 1) + fibo n ≤ _
      omega
  constructor
  · simp only [HT.height, HT.wt]
    rcases Nat.le_total b.height a.height with hh | hh
    · rw [Nat.max_eq_left hh]
      exact main a1 a2 b1 h.1
    · rw [Nat.max_eq_right hh]
      have := main b1 b2 a1 h.2
      omega
  · intro _
    simp only [HT.height, HT.key, Nat.add_sub_cancel]
    rcases Nat.le_total b.height a.height with hh | hh
    · rw [Nat.max_eq_left hh]; omega
    · rw [Nat.max_eq_right hh]; omega
theorem join_heavy {ts : List HT} (h2 : 2 ≤ ts.length) (hh : ∀ t ∈ ts, Heavy t) (hn : ts.Pairwise Near) : (∀ t ∈ join ts, Heavy t) ∧ (join ts).Pairwise Near := by
  have h1 : ts ≠ [] := by intro h0; subst h0; simp at h2
  have h3 : rest ts ≠ [] := by intro h0; have := rest_length h1; rw [h0] at this; simp at this; omega
  obtain ⟨n1, n2⟩ := near_rest hn h1
  obtain ⟨n3, n4⟩ := near_rest n1 h3
  have hab := n2 _ (pick_mem h3)
  constructor
  · intro t ht
    rcases List.mem_append.1 ht with ht | ht
    · exact hh t (rest_sub (rest_sub ht))
    · simp at ht
      subst ht
      exact heavy_node (hh _ (pick_mem h1)) (hh _ (rest_sub (pick_mem h3))) hab
  · refine List.pairwise_append.2 ⟨n3, by simp, fun u hu v hv => ?_⟩
    simp at hv
    subst hv
    have q1 := n2 u (rest_sub hu)
    have q2 := pick_le (ts := ts) (rest_sub (rest_sub hu))
    have q3 := pick_le (ts := rest ts) (rest_sub hu)
    simp only [Near, HT.key, HT.wt] at q1 ⊢
    omega
theorem joinAll_heavy : ∀ (m : Nat) (ts : List HT), ts.length = m + 1 → (∀ t ∈ ts, Heavy t) → ts.Pairwise Near → ∀ t ∈ joinAll m ts, Heavy t
  | 0, ts, _, h, _ => h
  | m + 1, ts, hl, h, hn => by
    obtain ⟨h1, h2⟩ := join_heavy (by omega) h hn
    exact joinAll_heavy m (join ts) (by rw [join_length (by omega)]; omega) h1 h2
theorem joinAll_total : ∀ (m : Nat) (ts : List HT), ts.length = m + 1 → total (joinAll m ts) = total ts
  | 0, ts, _ => rfl
  | m + 1, ts, hl => by
    simp only [joinAll]
    rw [joinAll_total m (join ts) (by rw [join_length (by omega)]; omega), join_total (by omega)]
theorem lay_le {B : Int} (t : HT) : ∀ (n : Nat) (out : List Int), (n : Int) + (t.height : Int) ≤ B → (∀ z ∈ out, z ≤ B) → ∀ z ∈ t.lay n out, z ≤ B := by
  induction t with
  | leaf w i =>
    intro n out hn ho z hz
    rcases List.mem_or_eq_of_mem_set hz with h | h
    · exact ho z h
    · rw [h]; simp [HT.height] at hn; omega
  | node l r ihl ihr =>
    intro n out hn ho z hz
    simp only [HT.height] at hn
    exact ihr (n + 1) _ (by omega) (ihl (n + 1) out (by omega) ho) z hz
theorem leaves_ones {fs : List Int} (h : ∀ f ∈ fs, f ≤ 1) (i : Nat) : total (leavesFrom i fs) ≤ fs.length := by
  induction fs generalizing i with
  | nil => simp [leavesFrom, total]
  | cons f fs ih =>
    have := ih (fun g hg => h g (by simp [hg])) (i + 1)
    have hf := h f (by simp)
    simp only [total] at this
    simp only [leavesFrom, total, List.length_cons]
    split
    · simp only [List.map_cons, List.sum_cons, HT.wt]; omega
    · exact Nat.le_trans this (Nat.le_add_right _ _)
theorem leaves_heavy {fs : List Int} {i : Nat} : ∀ t ∈ leavesFrom i fs, Heavy t := by
  intro t ht
  obtain ⟨q, hq, rfl, hp⟩ := leavesFrom_leaf ht
  refine ⟨?_, fun h => by simp [HT.height] at h⟩
  simp only [HT.height, HT.wt, fibo]
  omega
theorem leaves_near (fs : List Int) (i : Nat) : (leavesFrom i fs).Pairwise Near := by
  induction fs generalizing i with
  | nil => simp [leavesFrom]
  | cons f fs ih =>
    simp only [leavesFrom]
    split
    · refine List.pairwise_cons.2 ⟨fun u hu => ?_, ih _⟩
      obtain ⟨q, hq, rfl, hp⟩ := leavesFrom_leaf hu
      simp [Near, HT.key]
    · exact ih _
theorem fits_iff {zs : List Int} : fits zs = true ↔ ∀ z ∈ zs, z ≤ 15 := by simp [fits]
theorem fits_ones {fs : List Int} (h : ∀ f ∈ fs, f ≤ 1) (hl : fs.length ≤ 512) : fits (lensOf fs) = true := by
  rw [fits_iff]
  have hrep : ∀ z ∈ List.replicate fs.length (0 : Int), z ≤ 15 := fun z hz => by rw [List.eq_of_mem_replicate hz]; omega
  unfold lensOf
  split
  · exact hrep
  · rename_i t ht
    obtain ⟨q, hq, rfl, hp⟩ := leavesFrom_leaf (show t ∈ leavesFrom 0 fs by rw [ht]; simp)
    exact lay_le _ 1 _ (by simp [HT.height]) hrep
  · rename_i ts h0 h1
    have hlen : ∃ m, (leavesFrom 0 fs).length = m + 1 := ⟨(leavesFrom 0 fs).length - 1, by
      cases hx : leavesFrom 0 fs with
      | nil => exact absurd hx h0
      | cons a l => simp⟩
    obtain ⟨m, hm⟩ := hlen
    rw [hm, Nat.add_sub_cancel]
    split
    · rename_i t rest ht
      have h2 := joinAll_heavy m _ hm leaves_heavy (leaves_near fs 0) t (by rw [ht]; simp)
      have h3 := joinAll_total m _ hm
      have h4 := leaves_ones h 0
      rw [ht] at h3
      simp only [total, List.map_cons, List.sum_cons] at h3 h4
      have h5 : t.height ≤ 14 := by
        rcases Nat.lt_or_ge t.height 15 with hh | hh
        · omega
        · have := fibo_mono hh
          have e : fibo 15 = 1597 := by decide
          have := h2.1
          omega
      exact lay_le _ 0 _ (by omega) hrep
    · exact hrep
theorem halve_mem {fs : List Int} {n : Nat} (h : ∀ f ∈ fs, 0 ≤ f ∧ f ≤ 2 ^ (n + 1)) : ∀ f ∈ halve fs, 0 ≤ f ∧ f ≤ 2 ^ n := by
  intro f hf
  obtain ⟨g, hg, rfl⟩ := List.mem_map.1 hf
  obtain ⟨h1, h2⟩ := h g hg
  rw [Int.tdiv_eq_ediv_of_nonneg (by omega)]
  have : (2 : Int) ^ (n + 1) = 2 ^ n * 2 := by rw [Int.pow_succ]
  omega
theorem lensLoop_fits : ∀ (n : Nat) (fs : List Int), (∀ f ∈ fs, 0 ≤ f ∧ f ≤ 2 ^ n) → fs.length ≤ 512 → fits (lensLoop n fs) = true
  | 0, fs, h, hl => fits_ones (fun f hf => by have := (h f hf).2; simpa using this) hl
  | n + 1, fs, h, hl => by
    simp only [lensLoop]
    split
    · assumption
    · exact lensLoop_fits n _ (halve_mem h) (by rw [halve_length]; exact hl)
end Go.Rlm
end

section
namespace Go.Rlm
def allSyms (ts : List HT) : List Nat := ts.flatMap HT.syms
theorem erase_perm : ∀ (l : List HT) (i : Nat) (h : i < l.length), List.Perm (l[i] :: l.eraseIdx i) l
  | x :: l, 0, _ => .refl _
  | x :: l, i + 1, h => (List.Perm.swap x (l[i]'(by simpa using h)) _).trans ((erase_perm l i (by simpa using h)).cons x)
theorem rest_perm {ts : List HT} (h : ts ≠ []) : List.Perm (pick ts :: rest ts) ts := by
  have hl := least_lt h
  rw [pick, List.getD_eq_getElem?_getD, List.getElem?_eq_getElem hl]
  exact erase_perm ts _ hl
theorem join_perm {ts : List HT} (h2 : 2 ≤ ts.length) : List.Perm (allSyms (join ts)) (allSyms ts) := by
  have h1 : ts ≠ [] := by intro h0; subst h0; simp at h2
  have h3 : rest ts ≠ [] := by intro h0; have := rest_length h1; rw [h0] at this; simp at this; omega
  have p1 : List.Perm (allSyms (pick ts :: rest ts)) (allSyms ts) := (rest_perm h1).flatMap_right _
  have p2 : List.Perm (allSyms (pick (rest ts) :: rest (rest ts))) (allSyms (rest ts)) := (rest_perm h3).flatMap_right _
  simp only [allSyms, List.flatMap_cons] at p1 p2
  simp only [allSyms, join, List.flatMap_append, List.flatMap_cons, List.flatMap_nil, List.append_nil, HT.syms]
  refine List.perm_append_comm.trans (List.Perm.trans ?_ p1)
  rw [List.append_assoc]
  exact p2.append_left _
theorem joinAll_perm : ∀ (m : Nat) (ts : List HT), ts.length = m + 1 → List.Perm (allSyms (joinAll m ts)) (allSyms ts)
  | 0, ts, _ => .refl _
  | m + 1, ts, hl => (joinAll_perm m (join ts) (by rw [join_length (by omega)]; omega)).trans (join_perm (by omega))
theorem leaves_syms_ge {fs : List Int} {i : Nat} : ∀ x ∈ allSyms (leavesFrom i fs), i ≤ x ∧ x < i + fs.length := by
  intro x hx
  obtain ⟨t, ht, hx⟩ := List.mem_flatMap.1 hx
  obtain ⟨q, hq, rfl, _⟩ := leavesFrom_leaf ht
  simp [HT.syms] at hx
  omega
theorem leaves_nodup (fs : List Int) (i : Nat) : (allSyms (leavesFrom i fs)).Nodup := by
  induction fs generalizing i with
  | nil => simp [leavesFrom, allSyms]
  | cons f fs ih =>
    simp only [leavesFrom]
    split
    · simp only [allSyms, List.flatMap_cons, HT.syms, List.singleton_append]
      refine List.nodup_cons.2 ⟨fun h => ?_, ih _⟩
      have := leaves_syms_ge i h
      omega
    · exact ih _
theorem lay_other (t : HT) : ∀ (n : Nat) (out : List Int) (j : Nat), j ∉ t.syms → (t.lay n out)[j]? = out[j]? := by
  induction t with
  | leaf w i =>
    intro n out j hj
    simp only [HT.syms, List.mem_singleton] at hj
    exact List.getElem?_set_ne (Ne.symm hj)
  | node l r ihl ihr =>
    intro n out j hj
    simp only [HT.syms, List.mem_append, not_or] at hj
    simp only [HT.lay]
    rw [ihr _ _ _ hj.2, ihl _ _ _ hj.1]
theorem fillE_set {out : List Int} {i : Nat} (h : i < out.length) (h0 : out[i]? = some 0) (z : Int) : fillE (out.set i z) = fillE out + (if 0 < z then 2 ^ (15 - z.toNat) else 0) := by
  induction out generalizing i with
  | nil => simp at h
  | cons x xs ih =>
    cases i with
    | zero =>
      simp at h0
      subst h0
      simp [fillE, Nat.add_comm]
    | succ i =>
      have := ih (i := i) (by simpa using h) (by simpa using h0)
      simp only [fillE, List.set_cons_succ, List.map_cons, List.sum_cons] at this ⊢
      omega
theorem usedE_set {out : List Int} {i : Nat} (h : i < out.length) (h0 : out[i]? = some 0) (z : Int) : usedE (out.set i z) = usedE out + (if 0 < z then 1 else 0) := by
  induction out generalizing i with
  | nil => simp at h
  | cons x xs ih =>
    cases i with
    | zero =>
      simp at h0
      subst h0
      simp [usedE, Nat.add_comm]
    | succ i =>
      have := ih (i := i) (by simpa using h) (by simpa using h0)
      simp only [usedE, List.set_cons_succ, List.map_cons, List.sum_cons] at this ⊢
      omega
theorem kraft (t : HT) : ∀ (n : Nat) (out : List Int), n + t.height ≤ 15 → 0 < n + t.height → t.syms.Nodup → (∀ i ∈ t.syms, out[i]? = some 0) → fillE (t.lay n out) = fillE out + 2 ^ (15 - n) := by
  induction t with
  | leaf w i =>
    intro n out hn hp hd h0
    have hi := h0 i (by simp [HT.syms])
    simp only [HT.height, HT.lay] at hn hp ⊢
    have hlt : i < out.length := by
      rcases Nat.lt_or_ge i out.length with h | h
      · exact h
      · rw [List.getElem?_eq_none h] at hi; cases hi
    rw [fillE_set hlt hi, if_pos (by omega)]
    rfl
  | node l r ihl ihr =>
    intro n out hn hp hd h0
    simp only [HT.height, HT.syms] at hn hd h0
    obtain ⟨d1, d2, d3⟩ := List.nodup_append.1 hd
    simp only [HT.lay]
    rw [ihr (n + 1) _ (by omega) (by omega) d2 (fun i hi => ?_), ihl (n + 1) out (by omega) (by omega) d1 (fun i hi => h0 i (List.mem_append.2 (.inl hi)))]
    · have : 2 ^ (15 - n) = 2 ^ (15 - (n + 1)) + 2 ^ (15 - (n + 1)) := by
        rw [← Nat.two_mul, ← Nat.pow_succ']
        congr 1
        omega
      omega
    · rw [lay_other l _ _ _ (fun h => d3 i h i hi rfl)]
      exact h0 i (List.mem_append.2 (.inr hi))
theorem lay_deep (t : HT) : ∀ (n : Nat) (out : List Int), t.syms.Nodup → (∀ i ∈ t.syms, i < out.length) → ∃ i ∈ t.syms, (t.lay n out)[i]? = some (((n + t.height : Nat)) : Int) := by
  induction t with
  | leaf w i =>
    intro n out hd hs
    have hi := hs i (by simp [HT.syms])
    exact ⟨i, by simp [HT.syms], by simp [HT.lay, HT.height, hi]⟩
  | node l r ihl ihr =>
    intro n out hd hs
    simp only [HT.syms] at hd hs
    obtain ⟨d1, d2, d3⟩ := List.nodup_append.1 hd
    simp only [HT.height, HT.syms, HT.lay]
    rcases Nat.le_total r.height l.height with hh | hh
    · obtain ⟨i, hi, h⟩ := ihl (n + 1) out d1 (fun i hi => hs i (List.mem_append.2 (.inl hi)))
      refine ⟨i, List.mem_append.2 (.inl hi), ?_⟩
      rw [lay_other r _ _ _ (fun h => d3 i hi i h rfl), h, Nat.max_eq_left hh]
      congr 2; omega
    · obtain ⟨i, hi, h⟩ := ihr (n + 1) (l.lay (n + 1) out) d2 (fun i hi => by rw [HT.lay_length]; exact hs i (List.mem_append.2 (.inr hi)))
      refine ⟨i, List.mem_append.2 (.inr hi), ?_⟩
      rw [h, Nat.max_eq_right hh]
      congr 2; omega
theorem lay_ge {t : HT} : ∀ (n : Nat) (out : List Int), (∀ z ∈ out, 0 ≤ z) → ∀ z ∈ t.lay n out, 0 ≤ z := by
  induction t with
  | leaf w i =>
    intro n out ho z hz
    rcases List.mem_or_eq_of_mem_set hz with h | h
    · exact ho z h
    · rw [h]; omega
  | node l r ihl ihr =>
    intro n out ho
    exact ihr (n + 1) _ (ihl (n + 1) out ho)
theorem fillE_zero (n : Nat) : fillE (List.replicate n 0) = 0 := by
  induction n with
  | zero => rfl
  | succ n ih => simp only [fillE, List.replicate_succ, List.map_cons, List.sum_cons] at ih ⊢; rw [ih, if_neg (by omega)]
theorem usedE_zero (n : Nat) : usedE (List.replicate n 0) = 0 := by
  induction n with
  | zero => rfl
  | succ n ih => simp only [usedE, List.replicate_succ, List.map_cons, List.sum_cons] at ih ⊢; rw [ih, if_neg (by omega)]
theorem okLen_of {zs : List Int} (h0 : ∀ z ∈ zs, 0 ≤ z) (hf : fits zs = true) : okLen zs = true := by
  simp only [okLen, List.all_eq_true, Bool.and_eq_true, decide_eq_true_eq]
  exact fun z hz => ⟨h0 z hz, fits_iff.1 hf z hz⟩
/-- The one tree of more than one leaf. -/
theorem joined {fs : List Int} {m : Nat} {t : HT} (hm : (leavesFrom 0 fs).length = m + 1) (ht : joinAll m (leavesFrom 0 fs) = [t]) : t.syms.Nodup ∧ (∀ i ∈ t.syms, i < fs.length) ∧ List.Perm t.syms (allSyms (leavesFrom 0 fs)) := by
  have hp := joinAll_perm m _ hm
  rw [ht] at hp
  simp only [allSyms, List.flatMap_cons, List.flatMap_nil, List.append_nil] at hp
  exact ⟨hp.nodup_iff.2 (leaves_nodup fs 0), fun i hi => by have := leaves_syms_ge i (hp.mem_iff.1 hi); omega, hp⟩
theorem joinAll_one {ts : List HT} {m : Nat} (hm : ts.length = m + 1) : ∃ t, joinAll m ts = [t] := List.length_eq_one_iff.1 (joinAll_length m ts hm)
/-- How full: nothing, one of length 1, or just full. -/
theorem lensOf_fill {fs : List Int} (hf : fits (lensOf fs) = true) : okLen (lensOf fs) = true ∧
    (((leavesFrom 0 fs).length = 0 ∧ fillE (lensOf fs) = 0) ∨ ((leavesFrom 0 fs).length = 1 ∧ fillE (lensOf fs) = 16384 ∧ usedE (lensOf fs) = 1) ∨ (2 ≤ (leavesFrom 0 fs).length ∧ fillE (lensOf fs) = 32768)) := by
  have hrep : ∀ z ∈ List.replicate fs.length (0 : Int), 0 ≤ z := fun z hz => by rw [List.eq_of_mem_replicate hz]; omega
  have hget : ∀ i, i < fs.length → (List.replicate fs.length (0 : Int))[i]? = some 0 := fun i hi => by simp [hi]
  match hx : leavesFrom 0 fs with
  | [] =>
    have e : lensOf fs = List.replicate fs.length 0 := by unfold lensOf; rw [hx]
    rw [e]
    refine ⟨okLen_of hrep (fits_iff.2 fun z hz => by rw [List.eq_of_mem_replicate hz]; omega), .inl ⟨rfl, fillE_zero _⟩⟩
  | [t] =>
    have e : lensOf fs = t.lay 1 (List.replicate fs.length 0) := by unfold lensOf; rw [hx]
    obtain ⟨q, hq, rfl, hp⟩ := leavesFrom_leaf (show t ∈ leavesFrom 0 fs by rw [hx]; simp)
    have hq' := hget (0 + q) (by omega)
    rw [e] at hf ⊢
    refine ⟨okLen_of (lay_ge _ _ hrep) hf, .inr (.inl ⟨rfl, ?_, ?_⟩)⟩
    · simp only [HT.lay]
      rw [fillE_set (by simp; omega) hq', fillE_zero]; decide
    · simp only [HT.lay]
      rw [usedE_set (by simp; omega) hq', usedE_zero]; decide
  | a :: b :: ts =>
    obtain ⟨t, ht⟩ := joinAll_one (ts := leavesFrom 0 fs) (m := ts.length + 1) (by rw [hx]; simp)
    have e : lensOf fs = t.lay 0 (List.replicate fs.length 0) := by
      unfold lensOf
      rw [hx] at ht ⊢
      simp only [List.length_cons, Nat.add_sub_cancel]
      rw [ht]
    obtain ⟨j1, j2, j3⟩ := joined (m := ts.length + 1) (by rw [hx]; simp) ht
    rw [e] at hf ⊢
    obtain ⟨i, hi, hd⟩ := lay_deep t 0 (List.replicate fs.length 0) j1 (by simpa using j2)
    have hle := fits_iff.1 hf _ (List.mem_of_getElem? hd)
    have hpos : 0 < t.height := by
      rcases Nat.eq_zero_or_pos t.height with h0 | h0
      · cases t with
        | leaf w i =>
          have := j3.length_eq
          rw [hx] at this
          simp only [allSyms, List.flatMap_cons, HT.syms, List.length_append, List.length_singleton] at this
          have h1 := leavesFrom_leaf (show a ∈ leavesFrom 0 fs by rw [hx]; simp)
          have h2 := leavesFrom_leaf (show b ∈ leavesFrom 0 fs by rw [hx]; simp)
          obtain ⟨_, _, rfl, _⟩ := h1
          obtain ⟨_, _, rfl, _⟩ := h2
          simp only [HT.syms, List.length_singleton] at this
          omega
        | node l r => simp [HT.height] at h0
      · exact h0
    refine ⟨okLen_of (lay_ge _ _ hrep) hf, .inr (.inr ⟨by simp, ?_⟩)⟩
    rw [kraft t 0 _ (by omega) (by omega) j1 (fun i hi => hget i (j2 i hi)), fillE_zero]
theorem may_lensOf {fs : List Int} (hf : fits (lensOf fs) = true) (hl : fs.length ≤ 512) : may (lensOf fs) = true := by
  obtain ⟨h1, h2⟩ := lensOf_fill hf
  simp only [may, h1, lensOf_length, decide_eq_true hl, Bool.true_and, Bool.or_eq_true, Bool.and_eq_true, decide_eq_true_eq, ← fillE_eq h1, ← usedE_eq h1]
  omega
def pos (fs : List Int) : List Bool := fs.map fun f => decide (f > 0)
theorem halve_pos {fs : List Int} (h : ∀ f ∈ fs, 0 ≤ f) : pos (halve fs) = pos fs := by
  simp only [pos, halve, List.map_map]
  refine List.map_congr_left fun f hf => ?_
  have := h f hf
  have e : (f + 1).tdiv 2 = (f + 1) / 2 := Int.tdiv_eq_ediv_of_nonneg (by omega)
  simp only [Function.comp]
  exact decide_eq_decide.2 (by rw [e]; omega)
theorem halve_ge {fs : List Int} (h : ∀ f ∈ fs, 0 ≤ f) : ∀ f ∈ halve fs, 0 ≤ f := by
  intro f hf
  obtain ⟨g, hg, rfl⟩ := List.mem_map.1 hf
  have := h g hg
  rw [Int.tdiv_eq_ediv_of_nonneg (by omega)]
  omega
theorem lensLoop_of : ∀ (n : Nat) (fs : List Int), (∀ f ∈ fs, 0 ≤ f) → ∃ gs, lensLoop n fs = lensOf gs ∧ gs.length = fs.length ∧ pos gs = pos fs ∧ ∀ g ∈ gs, 0 ≤ g
  | 0, fs, h => ⟨fs, rfl, rfl, rfl, h⟩
  | n + 1, fs, h => by
    simp only [lensLoop]
    split
    · exact ⟨fs, rfl, rfl, rfl, h⟩
    · obtain ⟨gs, h1, h2, h3, h4⟩ := lensLoop_of n (halve fs) (halve_ge h)
      exact ⟨gs, h1, by rw [h2, halve_length], by rw [h3, halve_pos h], h4⟩
theorem may_lengthsOf {fs : List Int} (h : ∀ f ∈ fs, 0 ≤ f ∧ f ≤ 1073741824) (hl : fs.length ≤ 512) : may (lengthsOf fs) = true := by
  obtain ⟨gs, h1, h2, h3, h4⟩ := lensLoop_of 30 fs (fun f hf => (h f hf).1)
  have hf := lensLoop_fits 30 fs (fun f hf => by have := h f hf; omega) hl
  unfold lengthsOf
  rw [h1] at hf ⊢
  exact may_lensOf hf (by omega)
end Go.Rlm
end

section
namespace Go.Rlm
def SecondMin (ws : List Nat) (n a b : Nat) : Prop := b < n ∧ b ≠ a ∧ (∀ q, q < n → q ≠ a → ws.getD b 0 ≤ ws.getD q 0) ∧ ∀ q, q < b → q ≠ a → ws.getD b 0 < ws.getD q 0
theorem SecondMin.unique {ws : List Nat} {n a b c : Nat} (h : SecondMin ws n a b) (k : SecondMin ws n a c) : b = c := by
  rcases Nat.lt_trichotomy b c with h1 | h1 | h1
  · have := k.2.2.2 b h1 h.2.1
    have := h.2.2.1 c k.1 k.2.1
    omega
  · exact h1
  · have := h.2.2.2 c h1 k.2.1
    have := k.2.2.1 b h.1 h.2.1
    omega
def HT.dpt : HT → Nat → Nat
  | .leaf _ _, _ => 0
  | .node l r, i => 1 + (if i ∈ l.syms then l.dpt i else r.dpt i)
theorem lay_dpt (t : HT) : ∀ (n : Nat) (out : List Int) (i : Nat), t.syms.Nodup → i ∈ t.syms → i < out.length → (t.lay n out)[i]? = some ((n + t.dpt i : Nat) : Int) := by
  induction t with
  | leaf w j =>
    intro n out i hd hi hl
    simp only [HT.syms, List.mem_singleton] at hi
    subst hi
    simp [HT.lay, HT.dpt, hl]
  | node l r ihl ihr =>
    intro n out i hd hi hl
    simp only [HT.syms] at hd hi
    obtain ⟨d1, d2, d3⟩ := List.nodup_append.1 hd
    simp only [HT.lay, HT.dpt]
    by_cases h : i ∈ l.syms
    · rw [if_pos h, lay_other r _ _ _ (fun h2 => d3 i h i h2 rfl), ihl (n + 1) out i d1 h hl]
      congr 2; omega
    · rw [if_neg h, ihr (n + 1) _ i d2 ((List.mem_append.1 hi).resolve_left h) (by rw [HT.lay_length]; exact hl)]
      congr 2; omega
def inc (out : List Int) (i : Nat) : List Int := out.set i (out.getD i 0 + 1)
def incAll (is : List Nat) (out : List Int) : List Int := is.foldl inc out
@[simp] theorem incAll_length (is : List Nat) (out : List Int) : (incAll is out).length = out.length := by
  unfold incAll
  induction is generalizing out with
  | nil => rfl
  | cons i is ih => rw [List.foldl_cons, ih]; simp [inc]
end Go.Rlm
end

section
namespace Go.Rlm
theorem mem_leaves {fs : List Int} : ∀ (i q : Nat), q < fs.length → (i + q ∈ allSyms (leavesFrom i fs) ↔ 0 < fs.getD q 0) := by
  induction fs with
  | nil => intro i q hq; simp at hq
  | cons f fs ih =>
    intro i q hq
    simp only [leavesFrom]
    cases q with
    | zero =>
      simp only [List.getD_cons_zero, Nat.add_zero]
      by_cases h : f > 0
      · rw [if_pos h]
        exact ⟨fun _ => h, fun _ => by simp [allSyms, HT.syms]⟩
      · rw [if_neg h]
        refine ⟨fun hh => ?_, fun hh => absurd hh h⟩
        have := leaves_syms_ge i hh
        omega
    | succ q =>
      have := ih (i + 1) q (by simpa using hq)
      rw [show i + 1 + q = i + (q + 1) by omega] at this
      simp only [List.getD_cons_succ]
      rw [← this]
      split
      · simp only [allSyms, List.flatMap_cons, HT.syms, List.singleton_append, List.mem_cons]
        constructor
        · rintro (hh | hh)
          · omega
          · exact hh
        · exact .inr
      · rfl
/-- What the tree has: depths. -/
theorem lensOf_dpt {fs : List Int} {m : Nat} {t : HT} (hm : (leavesFrom 0 fs).length = m + 2) (ht : joinAll (m + 1) (leavesFrom 0 fs) = [t]) (hl : lensOf fs = t.lay 0 (List.replicate fs.length 0)) :
    ∀ q, q < fs.length → (lensOf fs).getD q 0 = if 0 < fs.getD q 0 then ((t.dpt q : Nat) : Int) else 0 := by
  intro q hq
  obtain ⟨j1, j2, j3⟩ := joined (m := m + 1) hm ht
  have hmem := mem_leaves (fs := fs) 0 q hq
  rw [Nat.zero_add, ← j3.mem_iff] at hmem
  rw [hl, List.getD_eq_getElem?_getD]
  by_cases h : 0 < fs.getD q 0
  · rw [if_pos h, lay_dpt t 0 _ q j1 (hmem.2 h) (by simpa using hq), Nat.zero_add]; rfl
  · rw [if_neg h, lay_other t _ _ _ (fun hh => h (hmem.1 hh))]
    simp [hq]
theorem more {fs : List Int} {m : Nat} {t : HT} (h : (leavesFrom 0 fs).length = m + 2) (ht : joinAll (m + 1) (leavesFrom 0 fs) = [t]) : lensOf fs = t.lay 0 (List.replicate fs.length 0) := by
  unfold lensOf
  split
  · rename_i h0; rw [h0] at h; simp at h
  · rename_i h0; rw [h0] at h; simp at h
  · rename_i ts h0 h1
    rw [h, show m + 2 - 1 = m + 1 by omega, ht]
theorem one_get {fs : List Int} {t : HT} (h : leavesFrom 0 fs = [t]) : ∀ q, q < fs.length → (lensOf fs).getD q 0 = if 0 < fs.getD q 0 then 1 else 0 := by
  intro q hq
  obtain ⟨p, hp, rfl, hpp⟩ := leavesFrom_leaf (show t ∈ leavesFrom 0 fs by rw [h]; simp)
  have hmem := mem_leaves (fs := fs) 0 q hq
  have e : lensOf fs = (HT.leaf (fs.getD p 0).toNat (0 + p)).lay 1 (List.replicate fs.length 0) := by unfold lensOf; rw [h]
  rw [h] at hmem
  simp only [allSyms, List.flatMap_cons, List.flatMap_nil, HT.syms, List.append_nil, List.mem_singleton, Nat.zero_add] at hmem
  rw [e, HT.lay, List.getD_eq_getElem?_getD, Nat.zero_add]
  by_cases h : 0 < fs.getD q 0
  · rw [if_pos h, hmem.2 h, List.getElem?_set_self (by simpa using hp)]; rfl
  · rw [if_neg h, List.getElem?_set_ne (fun hh => h (hmem.1 hh.symm))]; simp [hq]
theorem none_get {fs : List Int} (h : leavesFrom 0 fs = []) : ∀ q, q < fs.length → (lensOf fs).getD q 0 = 0 ∧ ¬ 0 < fs.getD q 0 := by
  intro q hq
  have hmem := mem_leaves (fs := fs) 0 q hq
  rw [h] at hmem
  have e : lensOf fs = List.replicate fs.length 0 := by unfold lensOf; rw [h]
  refine ⟨by rw [e, List.getD_eq_getElem?_getD]; simp [hq], fun hh => ?_⟩
  have := hmem.2 hh
  simp [allSyms] at this
theorem dpt_pos {fs : List Int} {m : Nat} {t : HT} (hm : (leavesFrom 0 fs).length = m + 2) (ht : joinAll (m + 1) (leavesFrom 0 fs) = [t]) (q : Nat) : 0 < t.dpt q := by
  obtain ⟨j1, j2, j3⟩ := joined (m := m + 1) hm ht
  cases t with
  | leaf w i =>
    have h1 := j3.length_eq
    have h2 : ∀ (us : List HT), (∀ u ∈ us, u.syms.length = 1) → (allSyms us).length = us.length := by
      intro us
      induction us with
      | nil => intro _; rfl
      | cons u us ih =>
        intro hu
        simp only [allSyms, List.flatMap_cons, List.length_append, List.length_cons]
        have := ih fun v hv => hu v (by simp [hv])
        simp only [allSyms] at this
        rw [this, hu u (by simp)]
        omega
    rw [h2 _ (fun u hu => by obtain ⟨p, hp, rfl, _⟩ := leavesFrom_leaf hu; rfl), hm] at h1
    simp [HT.syms] at h1
  | node l r => simp only [HT.dpt]; omega
theorem lens_pos {fs : List Int} : ∀ q, q < fs.length → (0 < (lensOf fs).getD q 0 ↔ 0 < fs.getD q 0) := by
  intro q hq
  rcases Nat.lt_or_ge (leavesFrom 0 fs).length 2 with h | h
  · rcases Nat.eq_zero_or_pos (leavesFrom 0 fs).length with h0 | h0
    · obtain ⟨h1, h2⟩ := none_get (List.eq_nil_of_length_eq_zero h0) q hq
      rw [h1]; exact ⟨fun hh => by omega, fun hh => absurd hh h2⟩
    · obtain ⟨t, ht⟩ := List.length_eq_one_iff.1 (show (leavesFrom 0 fs).length = 1 by omega)
      rw [one_get ht q hq]
      split <;> rename_i hh
      · exact ⟨fun _ => hh, fun _ => by omega⟩
      · exact ⟨fun hx => by omega, fun hx => absurd hx hh⟩
  · obtain ⟨m, hm⟩ : ∃ m, (leavesFrom 0 fs).length = m + 2 := ⟨(leavesFrom 0 fs).length - 2, by omega⟩
    obtain ⟨t, ht⟩ := joinAll_one (ts := leavesFrom 0 fs) (m := m + 1) hm
    have hp := dpt_pos hm ht q
    rw [lensOf_dpt hm ht (more hm ht) q hq]
    split <;> rename_i hh
    · exact ⟨fun _ => hh, fun _ => by omega⟩
    · exact ⟨fun hx => by omega, fun hx => absurd hx hh⟩
end Go.Rlm
end

section
namespace Go.Rlm
/-- How many bits a number has. -/
def nlen (n : Nat) : Nat := if n = 0 then 0 else n.log2 + 1
theorem nlen_zero : nlen 0 = 0 := rfl
theorem nlen_pos {n : Nat} (h : 0 < n) : 2 ^ (nlen n - 1) ≤ n ∧ n < 2 ^ nlen n ∧ 1 ≤ nlen n := by
  unfold nlen
  rw [if_neg (by omega)]
  refine ⟨?_, ?_, by omega⟩
  · simpa using Nat.log2_self_le (by omega : n ≠ 0)
  · exact Nat.lt_log2_self
theorem nlen_le {n m : Nat} (h : n < 2 ^ m) : nlen n ≤ m := by
  rcases Nat.eq_zero_or_pos n with h0 | h0
  · subst h0; exact Nat.zero_le _
  · obtain ⟨h1, _, h3⟩ := nlen_pos h0
    rcases Nat.lt_or_ge m (nlen n) with h4 | h4
    · exfalso
      have := Nat.pow_le_pow_right (n := 2) (by omega) (show m ≤ nlen n - 1 by omega)
      omega
    · exact h4
theorem nlen_eq {n m : Nat} (h1 : 2 ^ m ≤ n) (h2 : n < 2 ^ (m + 1)) : nlen n = m + 1 := by
  have h0 : 0 < n := Nat.lt_of_lt_of_le (Nat.two_pow_pos m) h1
  have h3 := nlen_le h2
  obtain ⟨_, h5, h6⟩ := nlen_pos h0
  rcases Nat.lt_or_ge (nlen n) (m + 1) with h7 | h7
  · exfalso
    have := Nat.pow_le_pow_right (n := 2) (by omega) (show nlen n ≤ m by omega)
    omega
  · omega
/-- A number's bits but the first one. -/
def numBits (n : Nat) : List Bool := bitsOf n (nlen n - 1)
/-- A number of a size. -/
def readNum (size : Nat) (r : List Bool) : Option (Nat × List Bool) :=
  if size < 2 then some (size, r) else if r.length < size - 1 then none else some (2 ^ (size - 1) + bitNum (r.take (size - 1)), r.drop (size - 1))
theorem numBits_length (n : Nat) : (numBits n).length = nlen n - 1 := by simp [numBits]
theorem readNum_bits (n : Nat) (r : List Bool) : readNum (nlen n) (numBits n ++ r) = some (n, r) := by
  rcases Nat.eq_zero_or_pos n with h0 | h0
  · subst h0
    simp [readNum, nlen_zero, numBits]
  · obtain ⟨h1, h2, h3⟩ := nlen_pos h0
    unfold readNum
    by_cases h4 : nlen n < 2
    · rw [if_pos h4]
      have h5 : nlen n = 1 := by omega
      have : n = 1 := by rw [h5] at h1 h2; simp at h1 h2; omega
      subst this
      have : numBits 1 = [] := List.eq_nil_of_length_eq_zero (by rw [numBits_length, h5])
      rw [this, h5]; rfl
    · rw [if_neg h4, if_neg (by simp [numBits_length])]
      have e1 : (numBits n ++ r).take (nlen n - 1) = numBits n := List.take_left' (numBits_length n)
      have e2 : (numBits n ++ r).drop (nlen n - 1) = r := List.drop_left' (numBits_length n)
      rw [e1, e2, numBits, bitNum_bitsOf]
      have e3 : 2 ^ nlen n = 2 * 2 ^ (nlen n - 1) := by
        rw [show nlen n = (nlen n - 1) + 1 by omega, Nat.pow_succ]; simp; omega
      have : 2 ^ (nlen n - 1) + n % 2 ^ (nlen n - 1) = n := by
        have := Nat.mod_add_div n (2 ^ (nlen n - 1))
        have hd : n / 2 ^ (nlen n - 1) = 1 := by
          refine Nat.div_eq_of_lt_le ?_ ?_ <;> omega
        rw [hd] at this
        omega
      rw [this]
theorem readNum_some {size : Nat} {r r' : List Bool} {n : Nat} (h : readNum size r = some (n, r')) : r = numBits n ++ r' ∧ nlen n = size := by
  unfold readNum at h
  split at h
  · rename_i h2
    injection h with h; injection h with h3 h4
    subst h3; subst h4
    have : size = 0 ∨ size = 1 := by omega
    rcases this with rfl | rfl
    · exact ⟨by simp [numBits, nlen_zero], rfl⟩
    · have hb : nlen 1 = 1 := by decide
      exact ⟨by simp [numBits, hb], hb⟩
  · rename_i h2
    split at h
    · cases h
    · rename_i h3
      injection h with h; injection h with h4 h5
      have hl : (r.take (size - 1)).length = size - 1 := by simp; omega
      have hb := bitNum_lt (r.take (size - 1))
      rw [hl] at hb
      have hbl : nlen n = size := by
        rw [← h4]
        have e := nlen_eq (n := 2 ^ (size - 1) + bitNum (r.take (size - 1))) (m := size - 1) (by omega) (by rw [Nat.pow_succ]; omega)
        rw [e]; omega
      refine ⟨?_, hbl⟩
      have e : numBits n = r.take (size - 1) := by
        rw [numBits, hbl, ← bitsOf_mod, ← h4, Nat.add_mod_left, Nat.mod_eq_of_lt hb]
        have := bitsOf_bitNum (r.take (size - 1))
        rw [hl] at this
        exact this
      rw [e, ← h5, List.take_append_drop]
/-- A token: its kind, its byte, its length, its distance, its slot. -/
structure Tok where
  k : Int
  b : Int
  l : Int
  d : Int
  s : Int
  deriving DecidableEq
/-- Such az a token of the program may be. -/
def Tok.wf (t : Tok) : Prop := (0 ≤ t.k ∧ t.k < 256) ∧ (0 ≤ t.b ∧ t.b < 256)
def isLong (l : Int) : Bool := decide (l ≥ 3) && decide (l ≤ 258)
/-- May a token's tokShape be? -/
def tokShape (t : Tok) : Bool :=
  if t.k = 1 then decide (t.l = 0) && (decide (t.d = 0) && decide (t.s = 0))
  else if t.k = 2 then decide (t.b = 0) && (decide (t.s = 0) && (isLong t.l && (decide (t.d ≥ 1) && decide (t.d ≤ 32768))))
  else if t.k = 3 then decide (t.b = 0) && (decide (t.d = 0) && (isLong t.l && (decide (t.s ≥ 0) && decide (t.s < 4))))
  else false
theorem tokShape_cases {t : Tok} (h : tokShape t = true) :
    (t.k = 1 ∧ t.l = 0 ∧ t.d = 0 ∧ t.s = 0) ∨ (t.k = 2 ∧ t.b = 0 ∧ t.s = 0 ∧ 3 ≤ t.l ∧ t.l ≤ 258 ∧ 1 ≤ t.d ∧ t.d ≤ 32768) ∨ (t.k = 3 ∧ t.b = 0 ∧ t.d = 0 ∧ 3 ≤ t.l ∧ t.l ≤ 258 ∧ 0 ≤ t.s ∧ t.s < 4) := by
  unfold tokShape isLong at h
  split at h
  · simp at h; exact .inl ⟨by assumption, h.1, h.2.1, h.2.2⟩
  · split at h
    · simp at h; exact .inr (.inl ⟨by assumption, h.1, h.2.1, h.2.2.1.1, h.2.2.1.2, h.2.2.2.1, h.2.2.2.2⟩)
    · split at h
      · simp at h; exact .inr (.inr ⟨by assumption, h.1, h.2.1, h.2.2.1.1, h.2.2.1.2, h.2.2.2.1, h.2.2.2.2⟩)
      · cases h
/-- The symbols and the bits that say a token. -/
def sym1 (t : Tok) : Nat := if t.k = 1 then t.b.toNat else if t.k = 2 then 260 + nlen t.d.toNat else 257 + t.s.toNat
def sym2 (t : Tok) : Nat := nlen (t.l - 3).toNat
def tokBits (z1 z2 : List Int) (t : Tok) : List Bool :=
  symBits z1 (sym1 t) ++ (if t.k = 2 then numBits t.d.toNat else []) ++ (if t.k = 1 then [] else symBits z2 (sym2 t) ++ numBits (t.l - 3).toNat)
/-- How often each symbol is said. -/
def freq1 (ts : List Tok) : List Int := (List.range 277).map fun i => (((ts.filter fun t => sym1 t == i).length + (if i = 256 then 1 else 0) : Nat) : Int)
def freq2 (ts : List Tok) : List Int := (List.range 9).map fun i => (((ts.filter fun t => t.k != 1 && sym2 t == i).length : Nat) : Int)
def lens1 (ts : List Tok) : List Int := lengthsOf (freq1 ts)
def lens2 (ts : List Tok) : List Int := lengthsOf (freq2 ts)
def packBits (z1 z2 : List Int) (ts : List Tok) : List Bool := ts.flatMap (tokBits z1 z2) ++ symBits z1 256
@[simp] theorem freq1_length (ts : List Tok) : (freq1 ts).length = 277 := by simp [freq1]
@[simp] theorem freq2_length (ts : List Tok) : (freq2 ts).length = 9 := by simp [freq2]
@[simp] theorem lens1_length (ts : List Tok) : (lens1 ts).length = 277 := by simp [lens1, lengthsOf_length]
@[simp] theorem lens2_length (ts : List Tok) : (lens2 ts).length = 9 := by simp [lens2, lengthsOf_length]
theorem sym1_lt {t : Tok} (h : tokShape t = true) (hw : t.wf) : sym1 t < 277 ∧ sym1 t ≠ 256 := by
  unfold sym1
  rcases tokShape_cases h with ⟨h1, _⟩ | ⟨h1, h2, h3, h4, h5, h6, h7⟩ | ⟨h1, h2, h3, h4, h5, h6, h7⟩
  · rw [if_pos h1]; have := hw.2; omega
  · rw [if_neg (by omega), if_pos h1]
    have := nlen_le (n := t.d.toNat) (m := 16) (by omega)
    have := (nlen_pos (n := t.d.toNat) (by omega)).2.2
    omega
  · rw [if_neg (by omega), if_neg (by omega)]; omega
theorem sym2_lt {t : Tok} (h : tokShape t = true) (h1 : t.k ≠ 1) : sym2 t < 9 := by
  unfold sym2
  have := nlen_le (n := (t.l - 3).toNat) (m := 8) (by rcases tokShape_cases h with ⟨h1, _⟩ | ⟨h1, h2, h3, h4, h5, h6, h7⟩ | ⟨h1, h2, h3, h4, h5, h6, h7⟩ <;> omega)
  omega
def readLen (z2 : List Int) (r : List Bool) : Option (Int × List Bool) :=
  match readSym z2 r with
  | (none, _) => none
  | (some j, r1) =>
    match readNum j r1 with
    | none => none
    | some (x, r2) => some ((x : Int) + 3, r2)
/-- A token, or the end; none: neither. -/
def readTok (z1 z2 : List Int) (r : List Bool) : Option (Option Tok × List Bool) :=
  match readSym z1 r with
  | (none, _) => none
  | (some k, r1) =>
    if k = 256 then some (none, r1)
    else if k < 256 then some (some ⟨1, (k : Int), 0, 0, 0⟩, r1)
    else if k ≤ 260 then
      match readLen z2 r1 with
      | none => none
      | some (l, r2) => some (some ⟨3, 0, l, 0, (k : Int) - 257⟩, r2)
    else
      match readNum (k - 260) r1 with
      | none => none
      | some (d, r2) =>
        match readLen z2 r2 with
        | none => none
        | some (l, r3) => some (some ⟨2, 0, l, (d : Int), 0⟩, r3)
/-- The last bits: fewer than 8, all of them 0. -/
def endOk (r : List Bool) : Bool := decide (r.length < 8) && r.all (!·)
def readToks (z1 z2 : List Int) : Nat → List Bool → List Tok → Option (List Tok)
  | 0, _, _ => none
  | f + 1, r, acc =>
    match readTok z1 z2 r with
    | none => none
    | some (none, r') => if endOk r' then some acc else none
    | some (some t, r') => if tokShape t then readToks z1 z2 f r' (acc ++ [t]) else none
/-- The bytes of a block: az lengths' and az bits'. -/
def unpackS (bs : List Nat) (bits : List Nat → List Bool) : Option (List Tok) :=
  match readTab 277 bs [] 0 (-1) true with
  | none => none
  | some (z1, u) =>
    if may z1 then
      match readTab 9 (bs.drop u) [] 0 (-1) true with
      | none => none
      | some (z2, v) => if may z2 then readToks z1 z2 (8 * bs.length + 1) (bits ((bs.drop u).drop v)) [] else none
    else none
end Go.Rlm
end

section
namespace Go.Rlm
theorem pos_get' {fs gs : List Int} (h : pos gs = pos fs) (hl : gs.length = fs.length) (q : Nat) (hq : q < fs.length) : 0 < gs.getD q 0 ↔ 0 < fs.getD q 0 := by
  have e := congrArg (fun l => l[q]?) h
  simp only [pos, List.getElem?_map] at e
  rw [List.getElem?_eq_getElem hq, List.getElem?_eq_getElem (by omega : q < gs.length)] at e
  simp only [Option.map_some, Option.some.injEq, decide_eq_decide] at e
  rw [List.getD_eq_getElem?_getD, List.getD_eq_getElem?_getD, List.getElem?_eq_getElem hq, List.getElem?_eq_getElem (by omega : q < gs.length)]
  exact e
theorem lengthsOf_pos {fs : List Int} (hf : ∀ f ∈ fs, 0 ≤ f) (q : Nat) (hq : q < fs.length) : 0 < (lengthsOf fs).getD q 0 ↔ 0 < fs.getD q 0 := by
  obtain ⟨gs, h1, h2, h3, h4⟩ := lensLoop_of 30 fs hf
  unfold lengthsOf
  rw [h1, lens_pos q (by omega)]
  exact pos_get' h3 h2 q hq
def packOf (bs : List Bool) : List Nat := (List.range ((bs.length + 7) / 8)).map fun i => bitNum ((List.range 8).map fun k => bs.getD (8 * i + k) false)
@[simp] theorem packOf_length (bs : List Bool) : (packOf bs).length = (bs.length + 7) / 8 := by simp [packOf]
theorem testBit_bitNum {l : List Bool} {k : Nat} (hk : k < l.length) : (bitNum l).testBit (l.length - 1 - k) = l.getD k false := by
  have h := bitsOf_bitNum l
  have h2 : (bitsOf (bitNum l) l.length)[k]? = some ((bitNum l).testBit (l.length - 1 - k)) := by simp [bitsOf, hk]
  rw [h] at h2
  rw [List.getD_eq_getElem?_getD, h2]; rfl
theorem packOf_ok (bs : List Bool) : Packs (packOf bs) bs := by
  refine ⟨packOf_length bs, fun i hi => ?_⟩
  rw [packOf_length] at hi
  have e : (packOf bs).getD i 0 = bitNum ((List.range 8).map fun k => bs.getD (8 * i + k) false) := by
    rw [List.getD_eq_getElem?_getD]
    simp [packOf, hi]
  rw [e]
  refine ⟨by have := bitNum_lt ((List.range 8).map fun k => bs.getD (8 * i + k) false); simpa using this, fun k hk => ?_⟩
  have := testBit_bitNum (l := (List.range 8).map fun k => bs.getD (8 * i + k) false) (k := k) (by simp [hk])
  simp only [List.length_map, List.length_range] at this
  rw [show 7 - k = 8 - 1 - k by omega, this, List.getD_eq_getElem?_getD]
  simp [hk]
def strBits (vs : List Nat) : List Bool := unpack (strOf vs)
@[simp] theorem strBits_length (vs : List Nat) : (strBits vs).length = 8 * vs.length := by simp [strBits]
theorem bitAt_str {vs : List Nat} {i : Nat} (h : i / 8 < vs.length) : bitAt (strOf vs) i = (UInt8.ofNat (vs.getD (i / 8) 0)).toNat.testBit (7 - i % 8) := by
  have e : (strOf vs).data.toList.getD (i / 8) 0 = UInt8.ofNat (vs.getD (i / 8) 0) := by
    simp [strOf, List.getD_eq_getElem?_getD]
    rw [List.getElem?_eq_getElem h]
    simp
  rw [bitAt, e]
theorem strBits_append (vs us : List Nat) : strBits (vs ++ us) = strBits vs ++ strBits us := by
  apply List.ext_getElem?
  intro i
  unfold strBits
  by_cases h1 : i < 8 * vs.length
  · rw [unpack_get (by simp; omega), List.getElem?_append_left (by simpa using h1), unpack_get (by simpa using h1), bitAt_str (by simp; omega), bitAt_str (by omega)]
    rw [List.getD_eq_getElem?_getD, List.getD_eq_getElem?_getD, List.getElem?_append_left (by omega)]
  · by_cases h2 : i < 8 * (vs.length + us.length)
    · rw [unpack_get (by simp; omega), List.getElem?_append_right (by simp; omega), unpack_get (by simp; omega), bitAt_str (by simp; omega), unpack_length, strOf_size, bitAt_str (by omega)]
      rw [show (i - 8 * vs.length) / 8 = i / 8 - vs.length by omega, show (i - 8 * vs.length) % 8 = i % 8 by omega]
      rw [List.getD_eq_getElem?_getD, List.getD_eq_getElem?_getD, List.getElem?_append_right (by omega)]
    · rw [List.getElem?_eq_none (by simp; omega), List.getElem?_eq_none (by simp; omega)]
def packB (ts : List Tok) : List Nat := tabBytes (lens1 ts) ++ (tabBytes (lens2 ts) ++ packOf (packBits (lens1 ts) (lens2 ts) ts))
def unpackB (bs : List Nat) : Option (List Tok) := unpackS bs strBits
/-- Such az can be packed. -/
def Fit (ts : List Tok) : Prop := ts.length ≤ 1048576 ∧ ∀ t ∈ ts, t.wf
theorem freq1_ok {ts : List Tok} (h : ts.length ≤ 1048576) : ∀ f ∈ freq1 ts, 0 ≤ f ∧ f ≤ 1073741824 := by
  intro x hx
  unfold freq1 at hx
  obtain ⟨i, _, rfl⟩ := List.mem_map.1 hx
  have := List.length_filter_le (fun t => sym1 t == i) ts
  have : (if i = 256 then 1 else 0 : Nat) ≤ 1 := by split <;> omega
  omega
theorem freq2_ok {ts : List Tok} (h : ts.length ≤ 1048576) : ∀ f ∈ freq2 ts, 0 ≤ f ∧ f ≤ 1073741824 := by
  intro x hx
  unfold freq2 at hx
  obtain ⟨i, _, rfl⟩ := List.mem_map.1 hx
  have := List.length_filter_le (fun t => t.k != 1 && sym2 t == i) ts
  omega
theorem may1 {ts : List Tok} (h : ts.length ≤ 1048576) : may (lens1 ts) = true := may_lengthsOf (freq1_ok h) (by simp)
theorem may2 {ts : List Tok} (h : ts.length ≤ 1048576) : may (lens2 ts) = true := may_lengthsOf (freq2_ok h) (by simp)
theorem pos1 {ts : List Tok} (hl : ts.length ≤ 1048576) {t : Tok} (ht : t ∈ ts) (h : sym1 t < 277) : 0 < (lens1 ts).getD (sym1 t) 0 := by
  refine (lengthsOf_pos (fun f hf => (freq1_ok hl f hf).1) _ (by simpa using h)).2 ?_
  have e : (freq1 ts)[sym1 t]? = some (((ts.filter fun u => sym1 u == sym1 t).length + (if sym1 t = 256 then 1 else 0) : Nat) : Int) := by simp [freq1, h]
  rw [List.getD_eq_getElem?_getD, e, Option.getD_some]
  have : 0 < (ts.filter fun u => sym1 u == sym1 t).length := List.length_pos_of_mem (List.mem_filter.2 ⟨ht, by simp⟩)
  omega
theorem pos256 {ts : List Tok} (hl : ts.length ≤ 1048576) : 0 < (lens1 ts).getD 256 0 := by
  refine (lengthsOf_pos (fun f hf => (freq1_ok hl f hf).1) _ (by simp)).2 ?_
  have e : (freq1 ts)[256]? = some (((ts.filter fun u => sym1 u == 256).length + 1 : Nat) : Int) := by simp [freq1]
  rw [List.getD_eq_getElem?_getD, e, Option.getD_some]
  omega
theorem pos2 {ts : List Tok} (hl : ts.length ≤ 1048576) {t : Tok} (ht : t ∈ ts) (h1 : t.k ≠ 1) (h : sym2 t < 9) : 0 < (lens2 ts).getD (sym2 t) 0 := by
  refine (lengthsOf_pos (fun f hf => (freq2_ok hl f hf).1) _ (by simpa using h)).2 ?_
  have e : (freq2 ts)[sym2 t]? = some (((ts.filter fun u => u.k != 1 && sym2 u == sym2 t).length : Nat) : Int) := by simp [freq2, h]
  rw [List.getD_eq_getElem?_getD, e, Option.getD_some]
  have : 0 < (ts.filter fun u => u.k != 1 && sym2 u == sym2 t).length := List.length_pos_of_mem (List.mem_filter.2 ⟨ht, by simp [h1]⟩)
  omega
theorem getD_elem {z : List Int} {i : Nat} (h : 0 < z.getD i 0) : ∃ hi : i < z.length, 0 < z[i] := by
  rcases Nat.lt_or_ge i z.length with h1 | h1
  · refine ⟨h1, ?_⟩
    rw [List.getD_eq_getElem?_getD, List.getElem?_eq_getElem h1] at h
    exact h
  · rw [List.getD_eq_getElem?_getD, List.getElem?_eq_none h1] at h; simp at h
theorem readSym_put {z : List Int} (hm : may z = true) {i : Nat} (h : 0 < z.getD i 0) (r : List Bool) : readSym z (symBits z i ++ r) = (some i, r) := by
  obtain ⟨h1, h2⟩ := getD_elem h
  exact readSym_code hm h1 h2 r
theorem readLen_put {z2 : List Int} (hm : may z2 = true) {l : Int} (h3 : 3 ≤ l) (hp : 0 < z2.getD (nlen (l - 3).toNat) 0) (r : List Bool) :
    readLen z2 (symBits z2 (nlen (l - 3).toNat) ++ (numBits (l - 3).toNat ++ r)) = some (l, r) := by
  unfold readLen
  rw [readSym_put hm hp]
  simp only
  rw [readNum_bits]
  simp only
  congr 2
  omega
theorem readTok_put {z1 z2 : List Int} (m1 : may z1 = true) (m2 : may z2 = true) {t : Tok} (hsh : tokShape t = true) (hw : t.wf) (p1 : 0 < z1.getD (sym1 t) 0) (p2 : t.k ≠ 1 → 0 < z2.getD (sym2 t) 0) (r : List Bool) :
    readTok z1 z2 (tokBits z1 z2 t ++ r) = some (some t, r) := by
  obtain ⟨k, b, l, d, s⟩ := t
  rcases tokShape_cases hsh with ⟨k1, e1, e2, e3⟩ | ⟨k1, e1, e2, e3, e4, e5, e6⟩ | ⟨k1, e1, e2, e3, e4, e5, e6⟩
  · simp only at k1 e1 e2 e3
    subst k1; subst e1; subst e2; subst e3
    obtain ⟨_, hb⟩ := hw
    simp only at hb
    unfold readTok tokBits sym1 at *
    simp only [if_true, if_neg (show ¬ ((1 : Int) = 2) by decide), List.append_nil] at p1 ⊢
    rw [readSym_put m1 p1]
    simp only
    rw [if_neg (by omega), if_pos (by omega)]
    congr 4
    omega
  · simp only at k1 e1 e2 e3 e4 e5 e6
    subst k1; subst e1; subst e2
    have hd : nlen d.toNat ≤ 16 := nlen_le (by omega)
    have hd1 := (nlen_pos (n := d.toNat) (by omega)).2.2
    have q2 := p2 (by simp)
    unfold readTok tokBits sym1 at *
    unfold sym2 at *
    simp only [if_neg (show ¬ ((2 : Int) = 1) by decide), if_true, List.append_assoc] at p1 q2 ⊢
    rw [readSym_put m1 p1]
    simp only
    rw [if_neg (by omega), if_neg (by omega), if_neg (by omega), show 260 + nlen d.toNat - 260 = nlen d.toNat by omega, readNum_bits]
    simp only
    rw [readLen_put m2 e3 q2]
    simp only
    congr 4
    omega
  · simp only at k1 e1 e2 e3 e4 e5 e6
    subst k1; subst e1; subst e2
    have q2 := p2 (by simp)
    unfold readTok tokBits sym1 at *
    unfold sym2 at *
    simp only [if_neg (show ¬ ((3 : Int) = 1) by decide), if_neg (show ¬ ((3 : Int) = 2) by decide), List.append_assoc, List.nil_append] at p1 q2 ⊢
    rw [readSym_put m1 p1]
    simp only
    rw [if_neg (by omega), if_neg (by omega), if_pos (by omega), readLen_put m2 e3 q2]
    simp only
    congr 4
    omega
theorem readTok_end {z1 z2 : List Int} (m1 : may z1 = true) (p : 0 < z1.getD 256 0) (r : List Bool) : readTok z1 z2 (symBits z1 256 ++ r) = some (none, r) := by
  unfold readTok
  rw [readSym_put m1 p]
  rfl
theorem readToks_put {z1 z2 : List Int} (m1 : may z1 = true) (m2 : may z2 = true) (p : 0 < z1.getD 256 0) {r : List Bool} (hr : endOk r = true) : ∀ (ts acc : List Tok) (f : Nat), ts.length < f →
    (∀ t ∈ ts, tokShape t = true ∧ t.wf ∧ 0 < z1.getD (sym1 t) 0 ∧ (t.k ≠ 1 → 0 < z2.getD (sym2 t) 0)) →
    readToks z1 z2 f (packBits z1 z2 ts ++ r) acc = some (acc ++ ts)
  | [], acc, f, hf, _ => by
    obtain ⟨f, rfl⟩ : ∃ f', f = f' + 1 := ⟨f - 1, by simp at hf; omega⟩
    unfold readToks packBits
    simp only [List.flatMap_nil, List.nil_append]
    rw [readTok_end m1 p]
    simp only
    rw [if_pos hr, List.append_nil]
  | t :: ts, acc, f, hf, h => by
    simp at hf
    obtain ⟨f, rfl⟩ : ∃ f', f = f' + 1 := ⟨f - 1, by omega⟩
    obtain ⟨h1, h2, h3, h4⟩ := h t (by simp)
    unfold readToks
    have e : packBits z1 z2 (t :: ts) ++ r = tokBits z1 z2 t ++ (packBits z1 z2 ts ++ r) := by simp [packBits]
    rw [e, readTok_put m1 m2 h1 h2 h3 h4]
    simp only
    rw [if_pos h1, readToks_put m1 m2 p hr ts (acc ++ [t]) f (by omega) fun u hu => h u (by simp [hu])]
    simp
theorem lens1_ge {ts : List Tok} (h : ts.length ≤ 1048576) : ∀ z ∈ lens1 ts, 0 ≤ z := fun z hz => (okLen_mem (may_ok (may1 h)).1 hz).1
theorem lens2_ge {ts : List Tok} (h : ts.length ≤ 1048576) : ∀ z ∈ lens2 ts, 0 ≤ z := fun z hz => (okLen_mem (may_ok (may2 h)).1 hz).1
theorem endOk_pad {n : Nat} (h : n < 8) : endOk (List.replicate n false) = true := by
  simp [endOk, h]
theorem symBits_pos {z : List Int} {i : Nat} (h : 0 < z.getD i 0) : 1 ≤ (symBits z i).length := by
  rw [symBits, bitsOf_length]; omega
theorem packBits_ge {z1 z2 : List Int} : ∀ (ts : List Tok), (∀ t ∈ ts, 0 < z1.getD (sym1 t) 0) → ts.length ≤ (packBits z1 z2 ts).length
  | [], _ => by simp
  | t :: ts, h => by
    have := packBits_ge (z2 := z2) ts fun u hu => h u (by simp [hu])
    have h1 := symBits_pos (h t (by simp))
    unfold packBits tokBits at *
    simp only [List.flatMap_cons, List.length_append, List.length_cons] at *
    omega
theorem unpack_pack {ts : List Tok} (hf : Fit ts) (hs : ∀ t ∈ ts, tokShape t = true) : unpackB (packB ts) = some ts := by
  obtain ⟨hl, hw⟩ := hf
  have m1 := may1 hl
  have m2 := may2 hl
  have e1 := readTab_tab (lens1_ge hl) (tabBytes (lens2 ts) ++ packOf (packBits (lens1 ts) (lens2 ts) ts))
  have e2 := readTab_tab (lens2_ge hl) (packOf (packBits (lens1 ts) (lens2 ts) ts))
  rw [lens1_length] at e1
  rw [lens2_length] at e2
  have hp : ∀ t ∈ ts, 0 < (lens1 ts).getD (sym1 t) 0 := fun t ht => pos1 hl ht (sym1_lt (hs t ht) (hw t ht)).1
  unfold unpackB unpackS packB
  rw [e1]
  simp only [m1, if_true]
  rw [List.drop_left, e2]
  simp only [m2, if_true]
  rw [List.drop_left, strBits, (packOf_ok _).unpack]
  have hge := packBits_ge (z1 := lens1 ts) (z2 := lens2 ts) ts hp
  rw [readToks_put m1 m2 (pos256 hl) (endOk_pad (by rw [packOf_length]; omega)) ts [] _ (by simp only [List.length_append, packOf_length]; omega) fun t ht => ⟨hs t ht, hw t ht, hp t ht, fun hk => pos2 hl ht hk (sym2_lt (hs t ht) hk)⟩]
  rfl
theorem readSym_more {z : List Int} (hm : may z = true) {r r' : List Bool} {i : Nat} (h : readSym z r = (some i, r')) (e : List Bool) : readSym z (r ++ e) = (some i, r' ++ e) := by
  obtain ⟨h1, h2, rfl⟩ := readSym_some h
  rw [List.append_assoc, readSym_put hm h2]
theorem readNum_more {n j : Nat} {r r' : List Bool} (h : readNum n r = some (j, r')) (e : List Bool) : readNum n (r ++ e) = some (j, r' ++ e) := by
  obtain ⟨rfl, rfl⟩ := readNum_some h
  rw [List.append_assoc, readNum_bits]
theorem readLen_more {z2 : List Int} (hm : may z2 = true) {l : Int} {r r' : List Bool} (h : readLen z2 r = some (l, r')) (e : List Bool) : readLen z2 (r ++ e) = some (l, r' ++ e) := by
  unfold readLen at *
  match hx : readSym z2 r with
  | (none, _) => rw [hx] at h; cases h
  | (some j, r1) =>
    rw [hx] at h
    rw [readSym_more hm hx e]
    simp only at h ⊢
    match hy : readNum j r1 with
    | none => rw [hy] at h; cases h
    | some (x, r2) =>
      rw [hy] at h
      rw [readNum_more hy e]
      simp only [Option.some.injEq, Prod.mk.injEq] at h ⊢
      exact ⟨h.1, by rw [h.2]⟩
theorem readTok_more {z1 z2 : List Int} (m1 : may z1 = true) (m2 : may z2 = true) {r r' : List Bool} {x : Option Tok} (h : readTok z1 z2 r = some (x, r')) (e : List Bool) : readTok z1 z2 (r ++ e) = some (x, r' ++ e) := by
  unfold readTok at *
  match hx : readSym z1 r with
  | (none, _) => rw [hx] at h; cases h
  | (some k, r1) =>
    rw [hx] at h
    rw [readSym_more m1 hx e]
    simp only at h ⊢
    split at h
    · rename_i h1; rw [if_pos h1]; injection h with h; injection h with h2 h3; subst h2; subst h3; rfl
    · rename_i h1
      rw [if_neg h1]
      split at h
      · rename_i h2; rw [if_pos h2]; injection h with h; injection h with h3 h4; subst h3; subst h4; rfl
      · rename_i h2
        rw [if_neg h2]
        split at h
        · rename_i h3
          rw [if_pos h3]
          match hy : readLen z2 r1 with
          | none => rw [hy] at h; cases h
          | some (l, r2) =>
            rw [hy] at h
            rw [readLen_more m2 hy e]
            injection h with h; injection h with h4 h5; subst h4; subst h5; rfl
        · rename_i h3
          rw [if_neg h3]
          generalize k - 260 = q at h ⊢
          match hy : readNum q r1 with
          | none => rw [hy] at h; cases h
          | some (d, r2) =>
            rw [hy] at h
            rw [readNum_more hy e]
            simp only at h ⊢
            match hz : readLen z2 r2 with
            | none => rw [hz] at h; cases h
            | some (l, r3) =>
              rw [hz] at h
              rw [readLen_more m2 hz e]
              injection h with h; injection h with h4 h5; subst h4; subst h5; rfl
theorem readToks_more {z1 z2 : List Int} (m1 : may z1 = true) (m2 : may z2 = true) {e : List Bool} (he : 8 ≤ e.length) {x : List Tok} : ∀ (f g : Nat) (r : List Bool) (acc : List Tok), readToks z1 z2 f r acc = some x → readToks z1 z2 g (r ++ e) acc = none
  | 0, _, _, _, h => by cases h
  | f + 1, 0, _, _, _ => rfl
  | f + 1, g + 1, r, acc, h => by
    unfold readToks at *
    match hx : readTok z1 z2 r with
    | none => rw [hx] at h; cases h
    | some (none, r1) =>
      rw [readTok_more m1 m2 hx e]
      simp only
      rw [if_neg]
      simp [endOk]
      omega
    | some (some t, r1) =>
      rw [hx] at h
      rw [readTok_more m1 m2 hx e]
      simp only at h ⊢
      split at h
      · rename_i ht; rw [if_pos ht]; exact readToks_more m1 m2 he f g r1 _ h
      · cases h
theorem unpack_longer {bs : List Nat} {ts : List Tok} (h : unpackB bs = some ts) (b : Nat) : unpackB (bs ++ [b]) = none := by
  unfold unpackB unpackS at *
  match hx : readTab 277 bs [] 0 (-1) true with
  | none => rw [hx] at h; cases h
  | some (z1, u) =>
    rw [hx] at h
    obtain ⟨_, hu, _, _⟩ := readTab_used 277 bs [] 0 (-1) true (by simp) hx
    rw [readTab_more 277 [b] bs [] 0 (-1) true hx]
    simp only at h ⊢
    split at h
    · rename_i m1
      rw [if_pos m1]
      rw [List.drop_append_of_le_length (by omega)]
      match hy : readTab 9 (bs.drop u) [] 0 (-1) true with
      | none => rw [hy] at h; cases h
      | some (z2, v) =>
        rw [hy] at h
        obtain ⟨_, hv, _, _⟩ := readTab_used 9 (bs.drop u) [] 0 (-1) true (by simp) hy
        rw [readTab_more 9 [b] (bs.drop u) [] 0 (-1) true hy]
        simp only at h ⊢
        split at h
        · rename_i m2
          rw [if_pos m2, List.drop_append_of_le_length (by omega), strBits_append]
          exact readToks_more m1 m2 (by simp) _ _ _ _ h
        · cases h
    · cases h
theorem unpack_shorter {bs : List Nat} {ts : List Tok} (h : unpackB bs = some ts) (hne : bs ≠ []) : unpackB bs.dropLast = none := by
  match hx : unpackB bs.dropLast with
  | none => rfl
  | some us =>
    have := unpack_longer hx (bs.getLast hne)
    rw [List.dropLast_concat_getLast hne, h] at this
    cases this
theorem readTok_wf {z1 z2 : List Int} {r r' : List Bool} {t : Tok} (h : readTok z1 z2 r = some (some t, r')) : t.wf := by
  unfold readTok at h
  match hx : readSym z1 r with
  | (none, _) => rw [hx] at h; cases h
  | (some k, r1) =>
    rw [hx] at h
    simp only at h
    split at h
    · injection h with h; injection h with h2 h3; cases h2
    · split at h
      · rename_i h2
        injection h with h; injection h with h3 h4; injection h3 with h3; subst h3
        exact ⟨⟨by simp, by simp⟩, ⟨by simp only; omega, by simp only; omega⟩⟩
      · split at h
        · match hy : readLen z2 r1 with
          | none => rw [hy] at h; cases h
          | some (l, r2) =>
            rw [hy] at h
            injection h with h; injection h with h3 h4; injection h3 with h3; subst h3
            exact ⟨⟨by simp, by simp⟩, ⟨by simp, by simp⟩⟩
        · generalize k - 260 = q at h
          match hy : readNum q r1 with
          | none => rw [hy] at h; cases h
          | some (d, r2) =>
            rw [hy] at h
            simp only at h
            match hz : readLen z2 r2 with
            | none => rw [hz] at h; cases h
            | some (l, r3) =>
              rw [hz] at h
              injection h with h; injection h with h3 h4; injection h3 with h3; subst h3
              exact ⟨⟨by simp, by simp⟩, ⟨by simp, by simp⟩⟩
theorem readToks_wf {z1 z2 : List Int} {x : List Tok} : ∀ (f : Nat) (r : List Bool) (acc : List Tok), readToks z1 z2 f r acc = some x → (∀ t ∈ acc, tokShape t = true ∧ t.wf) → (∀ t ∈ x, tokShape t = true ∧ t.wf) ∧ x.length ≤ acc.length + f
  | 0, _, _, h, _ => by cases h
  | f + 1, r, acc, h, ha => by
    unfold readToks at h
    match hx : readTok z1 z2 r with
    | none => rw [hx] at h; cases h
    | some (none, r1) =>
      rw [hx] at h
      simp only at h
      split at h
      · injection h with h; subst h; exact ⟨ha, by omega⟩
      · cases h
    | some (some t, r1) =>
      rw [hx] at h
      simp only at h
      split at h
      · rename_i ht
        obtain ⟨h1, h2⟩ := readToks_wf f r1 _ h fun u hu => by
          rcases List.mem_append.1 hu with hu | hu
          · exact ha u hu
          · rw [List.mem_singleton.1 hu]; exact ⟨ht, readTok_wf hx⟩
        exact ⟨h1, by simp at h2; omega⟩
      · cases h
theorem unpack_wf {bs : List Nat} {ts : List Tok} (h : unpackB bs = some ts) : (∀ t ∈ ts, tokShape t = true ∧ t.wf) ∧ ts.length ≤ 8 * bs.length + 1 := by
  unfold unpackB unpackS at h
  match hx : readTab 277 bs [] 0 (-1) true with
  | none => rw [hx] at h; cases h
  | some (z1, u) =>
    rw [hx] at h
    simp only at h
    split at h
    · match hy : readTab 9 (bs.drop u) [] 0 (-1) true with
      | none => rw [hy] at h; cases h
      | some (z2, v) =>
        rw [hy] at h
        simp only at h
        split at h
        · have := readToks_wf _ _ _ h (fun t ht => by cases ht)
          simpa using this
        · cases h
    · cases h
theorem symBits_le15 {z : List Int} (hm : may z = true) (s : Nat) : (symBits z s).length ≤ 15 := by
  rw [symBits, bitsOf_length]
  rcases Nat.lt_or_ge s z.length with h | h
  · have hg : z.getD s 0 = z[s] := by rw [List.getD_eq_getElem?_getD, List.getElem?_eq_getElem h]; rfl
    have := okLen_mem (may_ok hm).1 (List.getElem_mem h)
    omega
  · rw [List.getD_eq_getElem?_getD, List.getElem?_eq_none h]; simp
theorem tokBits_le52 {z1 z2 : List Int} (h1 : may z1 = true) (h2 : may z2 = true) {t : Tok} (hsh : tokShape t = true) : (tokBits z1 z2 t).length ≤ 52 := by
  have a1 := symBits_le15 h1 (sym1 t)
  have a2 := symBits_le15 h2 (sym2 t)
  have a3 : t.k = 2 → (numBits t.d.toNat).length ≤ 15 := by
    intro hk
    rw [numBits_length]
    rcases tokShape_cases hsh with ⟨k1, _⟩ | ⟨k1, e1, e2, e3, e4, e5, e6⟩ | ⟨k1, _⟩
    · omega
    · have := nlen_le (n := t.d.toNat) (m := 16) (by omega); omega
    · omega
  have a4 : t.k ≠ 1 → (numBits (t.l - 3).toNat).length ≤ 7 := by
    intro hk
    rw [numBits_length]
    have : nlen (t.l - 3).toNat ≤ 8 := nlen_le (by rcases tokShape_cases hsh with ⟨k1, _⟩ | ⟨k1, e1, e2, e3, e4, e5, e6⟩ | ⟨k1, e1, e2, e3, e4, e5, e6⟩ <;> omega)
    omega
  unfold tokBits
  simp only [List.length_append]
  split <;> split <;> simp_all <;> omega
theorem packBits_le {z1 z2 : List Int} (h1 : may z1 = true) (h2 : may z2 = true) : ∀ (ts : List Tok), (∀ t ∈ ts, tokShape t = true) → (packBits z1 z2 ts).length ≤ 52 * ts.length + 15
  | [], _ => by unfold packBits; simpa using symBits_le15 h1 256
  | t :: ts, h => by
    have := packBits_le h1 h2 ts fun u hu => h u (by simp [hu])
    have h3 := tokBits_le52 h1 h2 (h t (by simp))
    unfold packBits at *
    simp only [List.flatMap_cons, List.length_append, List.length_cons] at *
    omega
theorem packB_le {ts : List Tok} (hl : ts.length ≤ 1048576) (hs : ∀ t ∈ ts, tokShape t = true) : (packB ts).length ≤ 300 + 7 * ts.length := by
  have h1 := packBits_le (may1 hl) (may2 hl) ts hs
  have h2 := tabBytes_len_le (lens1 ts)
  have h3 := tabBytes_len_le (lens2 ts)
  rw [lens1_length] at h2
  rw [lens2_length] at h3
  unfold packB
  simp only [List.length_append, packOf_length]
  omega
theorem tabBytes_small {zs : List Int} (h : okLen zs = true) : ∀ b ∈ tabBytes zs, b < 256 := by
  intro b hb
  unfold tabBytes at hb
  obtain ⟨p, hp, rfl⟩ := List.mem_map.1 hb
  have h1 := runsOk_tab _ zs (Nat.le_refl _)
  have he := expand_tabRuns _ zs (Nat.le_refl _)
  have h2 := runsOk_mem h1 p hp
  have h3 := mem_expand hp h2.1
  rw [he] at h3
  have := okLen_mem h h3
  unfold runByte
  omega
theorem packB_small {ts : List Tok} (hl : ts.length ≤ 1048576) : ∀ b ∈ packB ts, b < 256 := by
  intro b hb
  unfold packB at hb
  rcases List.mem_append.1 hb with hb | hb
  · exact tabBytes_small (may_ok (may1 hl)).1 b hb
  · rcases List.mem_append.1 hb with hb | hb
    · exact tabBytes_small (may_ok (may2 hl)).1 b hb
    · have := packOf_ok (packBits (lens1 ts) (lens2 ts) ts)
      obtain ⟨i, hi, rfl⟩ := List.getElem_of_mem hb
      have := (this.2 i hi).1
      rwa [List.getD_eq_getElem?_getD, List.getElem?_eq_getElem hi] at this
end Go.Rlm
end

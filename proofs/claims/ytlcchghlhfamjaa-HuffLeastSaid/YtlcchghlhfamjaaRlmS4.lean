/- The logical machine and the model: operation by operation, the first half. -/
import Derived.Test.YtlcchghlhfamjaaRlmS3
namespace Go.Rlm

section
variable {P : Program} {env : Env} {L : LHeap} {o : Oper} {r : LR} {K : Value → LHeap → R}

def Quiet (P : Program) (env : Env) (L : LHeap) (o : Oper) (v : Value) : Prop :=
  ∀ (m : RMap) (w : World) (a : Act), Rep P m L w → ER m env a.tmps → ∃ v', Gives P (execOp a.eval o) w v' w ∧ VR m v v'

def Does (P : Program) (env : Env) (L : LHeap) (o : Oper) (v : Value) (L' : LHeap) : Prop :=
  ∀ (m : RMap) (w : World) (a : Act), Rep P m L w → ER m env a.tmps → ∃ m' w' v', Gives P (execOp a.eval o) w v' w' ∧ VR m' v v' ∧ Rep P m' L' w' ∧ Tr m L w m' L' w'

theorem Quiet.does {v : Value} (h : Quiet P env L o v) : Does P env L o v L := fun m w a hr he =>
  let ⟨v', h1, h2⟩ := h m w a hr he; ⟨m, w, v', h1, h2, hr, .refl m L w⟩

def Res (P : Program) (env : Env) (L : LHeap) (o : Oper) (K : Value → LHeap → R) (r : LR) : Prop :=
  ∃ v L', K v L' = some r ∧ (∀ K2, lop P env L o K2 = K2 v L') ∧ ((L' = L ∧ Quiet P env L o v) ∨ (kindOf P o.op = .write ∧ Does P env L o v L')) ∧
    (kindOf P o.op = .pure → ∀ L2 K2, lop P env L2 o K2 = K2 v L2)

theorem Res.pure (v : Value) (h1 : K v L = some r) (h2 : ∀ L2 K2, lop P env L2 o K2 = K2 v L2)
    (h3 : ∀ (m : RMap) (w : World) (a : Act), Rep P m L w → ER m env a.tmps → ∃ v', (execOp a.eval o).run P w = .ok (.value v') w ∧ VR m v v') : Res P env L o K r :=
  ⟨v, L, h1, h2 L, .inl ⟨rfl, fun m w a hr he => let ⟨v', h4, h5⟩ := h3 m w a hr he; ⟨v', .inl h4, h5⟩⟩, fun _ => h2⟩

theorem Res.read (v : Value) (hk : kindOf P o.op ≠ .pure) (h1 : K v L = some r) (h2 : ∀ K2, lop P env L o K2 = K2 v L)
    (h3 : ∀ (m : RMap) (w : World) (a : Act), Rep P m L w → ER m env a.tmps → ∃ v', (execOp a.eval o).run P w = .ok (.value v') w ∧ VR m v v') : Res P env L o K r :=
  ⟨v, L, h1, h2, .inl ⟨rfl, fun m w a hr he => let ⟨v', h4, h5⟩ := h3 m w a hr he; ⟨v', .inl h4, h5⟩⟩, fun h => absurd h hk⟩

theorem Res.write (v : Value) (L' : LHeap) (hk : kindOf P o.op = .write) (h1 : K v L' = some r) (h2 : ∀ K2, lop P env L o K2 = K2 v L')
    (h3 : Does P env L o v L') : Res P env L o K r :=
  ⟨v, L', h1, h2, .inr ⟨hk, h3⟩, fun h => by rw [hk] at h; cases h⟩

theorem arr_map {α β : Type} (xs : Array α) (f : α → β) : xs.map f = ⟨xs.toList.map f⟩ := by apply Array.ext'; simp

/-! ### Types -/

theorem run_isAgg {t : TypeId} {d : TypeDesc} (h : P.underlying t = some d) (w : World) : (isAgg t).run P w = .ok (isAggT P t) w := by
  unfold isAgg isAggT
  simp only [Sem.run_bind, run_underlying h, Result.andThen_ok, h]
  cases d <;> rfl

theorem info_of_underlying {t : TypeId} {d : TypeDesc} (h : P.underlying t = some d) : ∃ i, P.info? t = some i := by
  unfold Program.underlying at h
  cases hi : P.info? t with
  | none => rw [hi] at h; cases h
  | some i => exact ⟨i, rfl⟩

theorem run_size {t : TypeId} {d : TypeDesc} (h : P.underlying t = some d) (w : World) : (sizeOf t).run P w = .ok (P.cellsOf t) w := by
  obtain ⟨i, hi⟩ := info_of_underlying h
  simp [sizeOf, typeInfo, hi, Program.cellsOf]

theorem isAggT_underlying {t : TypeId} (h : isAggT P t = true) : ∃ d, P.underlying t = some d := by
  unfold isAggT at h
  cases hu : P.underlying t with
  | none => rw [hu] at h; cases h
  | some d => exact ⟨d, rfl⟩

theorem leaves_underlying {d : Nat} {t : TypeId} {ls : List Leaf} (h : leaves P d t = some ls) : ∃ d, P.underlying t = some d := by
  cases d with
  | zero => cases h
  | succ d =>
    unfold leaves at h
    cases hu : P.underlying t with
    | none => rw [hu] at h; cases h
    | some d => exact ⟨d, rfl⟩

/-! ### Loads -/

theorem ldLeaves_ok {a : Addr} : ∀ {ls : List Leaf} {j : Nat} {K : List Value → R}, ldLeaves L a ls j K = some r →
    ∃ vs, vs.length = ls.length ∧ K vs = some r ∧ (∀ K2, ldLeaves L a ls j K2 = K2 vs) ∧ ∀ (q : Nat) (v : Value), vs[q]? = some v → cell L (a.add (j + q)) = some v
  | [], j, K, h => ⟨[], rfl, h, fun _ => rfl, by simp⟩
  | l :: ls, j, K, h => by
    simp only [ldLeaves, leaf_eq, obind_iff] at h
    obtain ⟨v, h1, h2⟩ := h
    obtain ⟨vs, h3, h4, h5, h6⟩ := ldLeaves_ok h2
    refine ⟨v :: vs, by simp [h3], h4, fun K2 => by simp only [ldLeaves, leaf_eq, h1, obind_some, h5], fun q u hq => ?_⟩
    cases q with
    | zero => simp at hq; subst hq; exact leafV_same h1
    | succ q => simp at hq; have := h6 q u hq; rwa [show j + (q + 1) = j + 1 + q by omega]

theorem loadT_ok {t : TypeId} {a : Addr} {K : Value → R} (h : loadT P t L a K = some r) :
    ∃ v, K v = some r ∧ (∀ K2, loadT P t L a K2 = K2 v) ∧ ∀ (m : RMap) (w : World) (i : Info), Rep P m L w → m a.block = some i → ∃ v', (loadVar t (i.at a)).run P w = .ok v' w ∧ VR m v v' := by
  unfold loadT at h
  cases ha : isAggT P t with
  | true =>
    obtain ⟨d, hu⟩ := isAggT_underlying ha
    simp only [ha, hif_true, cond_true] at h
    have fin : ∀ cs : List Value, cs.length = P.cellsOf t → (∀ (q : Nat) (v : Value), cs[q]? = some v → cell L (a.add q) = some v) → ∀ (m : RMap) (w : World) (i : Info), Rep P m L w → m a.block = some i →
        ∃ v', (loadVar t (i.at a)).run P w = .ok v' w ∧ VR m (.agg cs.toArray) v' := fun cs hl hc m w i hr hi => by
      obtain ⟨cs', h6, h7, h8⟩ := hr.cells hi hc
      refine ⟨.agg ⟨cs'⟩, ?_, .agg h7 h8⟩
      rw [hl] at h6
      simp only [loadVar, Sem.run_bind, run_isAgg hu, Result.andThen_ok, ha, if_true, run_size hu, h6, Sem.run_pure]
    split at h
    · rename_i ls hl
      simp only [cond_iff] at h
      obtain ⟨hb, h⟩ := h
      have hb' := Nat.eq_of_beq_eq_true hb
      obtain ⟨vs, h1, h2, h3, h4⟩ := ldLeaves_ok h
      refine ⟨_, h2, fun K2 => by simp only [loadT, ha, hif_true, cond_true, hl, hb, h3], fin vs (h1.trans hb') fun q v hq => by simpa using h4 q v hq⟩
    · rename_i hl
      simp only [obind_iff] at h
      obtain ⟨cs, h1, h2⟩ := h
      obtain ⟨h3, h4⟩ := cellsAt_cell h1
      refine ⟨_, h2, fun K2 => by simp only [loadT, ha, hif_true, cond_true, hl, h1, obind_some], fin cs h3 fun q v hq => by rw [addrN_add (cellsAt_spot h1)]; exact h4 q v hq⟩
  | false =>
    simp only [ha, hif_false, cond_false] at h
    split at h
    case h_2 => cases h
    rename_i l hl
    obtain ⟨d, hu⟩ := leaves_underlying hl
    simp only [leaf_eq, obind_iff] at h
    obtain ⟨v, h1, h2⟩ := h
    refine ⟨v, h2, fun K2 => by simp only [loadT, ha, hif_false, cond_false, hl, leaf_eq, h1, obind_some], fun m w i hr hi => ?_⟩
    obtain ⟨i', v', h3, h4, h5, _⟩ := hr.cell (leafV_same h1)
    rw [hi] at h3; injection h3 with h3; subst h3
    refine ⟨v', ?_, h5⟩
    simp only [loadVar, Sem.run_bind, run_isAgg hu, Result.andThen_ok, ha, Bool.false_eq_true, if_false, run_load, h4]

theorem cellsOf_ok {m : RMap} {u u' : Value} {vs : List Value} (h : cellsOf u = some vs) (hv : VR m u u') : VRs m vs u'.cells.toList ∧ ∀ v ∈ vs, one v = true := by
  cases u with
  | agg cs =>
    injection h with h; subst h
    obtain ⟨cs', rfl, h1, h2⟩ := hv.of_agg
    exact ⟨h1, h2⟩
  | tuple cs => cases h
  | _ =>
    injection h with h; subst h
    have h1 := hv.one_eq
    have h2 : u'.cells = #[u'] := by cases u' <;> first | rfl | (simp [one] at h1; done)
    rw [h2]
    exact ⟨.cons hv .nil, by simp [one]⟩

/-! ### Plain operations -/

theorem lop_move {x : Operand} (ho : o.op = .move x ∨ o.op = .assign x) (h : lop P env L o K = some r) : Res P env L o K r := by
  obtain ⟨dst, op, ty, pos, after, guard⟩ := o
  simp only at ho
  rcases ho with rfl | rfl <;>
  · simp only [lop, ev_eq, obind_iff] at h
    obtain ⟨v, h1, h2⟩ := h
    exact .pure v h2 (fun L2 K2 => by simp only [lop, ev_eq, h1, obind_some]) fun m w a _ he => ⟨_, rfl, he.eval h1⟩

theorem lop_pick {c x y : Operand} (ho : o.op = .pick c x y) (h : lop P env L o K = some r) : Res P env L o K r := by
  obtain ⟨dst, op, ty, pos, after, guard⟩ := o
  simp only at ho
  subst ho
  simp only [lop, ev_eq, obind_iff] at h
  obtain ⟨v, h1, h2⟩ := h
  split at h2
  case h_2 => cases h2
  rename_i b
  rw [lif_iff] at h2
  rcases h2 with ⟨rfl, h2⟩ | ⟨rfl, h2⟩ <;>
  · simp only [obind_iff] at h2
    obtain ⟨u, h3, h4⟩ := h2
    refine .pure u h4 (fun L2 K2 => by simp only [lop, ev_eq, h1, h3, obind_some, lif_true, lif_false]) fun m w a _ he => ⟨_, ?_, he.eval h3⟩
    have := he.eval h1
    simp [execOp, asBool, VR.of_bool this]

theorem lop_nilCheck {x : Operand} (ho : o.op = .nilCheck x) (h : lop P env L o K = some r) : Res P env L o K r := by
  obtain ⟨dst, op, ty, pos, after, guard⟩ := o
  simp only at ho
  subst ho
  simp only [lop, ev_eq, obind_iff] at h
  obtain ⟨v, h1, h2⟩ := h
  split at h2
  · rename_i p
    rw [obind_iff] at h2
    obtain ⟨a, rfl, h3⟩ := h2
    refine .pure _ h3 (fun L2 K2 => by simp only [lop, ev_eq, h1, obind_some]) fun m w a _ he => ⟨_, ?_, he.eval h1⟩
    obtain ⟨i, h4, h5⟩ := (he.eval h1).of_ptr
    simp [execOp, h5]
  · rename_i u hnp
    rw [obind_iff] at h2
    obtain ⟨u2, h3, h4⟩ := h2
    have hu : u2 = v := by
      cases v with
      | func f a b => cases f <;> simp [nonNil] at h3; exact h3.symm
      | iface t y => simp [nonNil] at h3; exact h3.symm
      | _ => simp [nonNil] at h3
    subst hu
    refine .pure _ h4 (fun L2 K2 => ?_) fun m w a _ he => ⟨_, ?_, he.eval h1⟩
    · simp only [lop, ev_eq, h1, obind_some]
      cases u2 with
      | func f a b => simp only [h3, obind_some]
      | iface t y => simp only [h3, obind_some]
      | _ => simp [nonNil] at h3
    · have hv := he.eval h1
      cases u2 with
      | func f x y =>
        cases f <;> simp [nonNil] at h3
        obtain ⟨a', b', h5, _, _⟩ := hv.of_func
        simp [execOp, h5]
      | iface t y =>
        obtain ⟨u, h5, _⟩ := hv.of_iface
        simp [execOp, h5]
      | _ => simp [nonNil] at h3

theorem lop_binOp {bop : BinOp} {t yt : TypeId} {x y : Operand} (ho : o.op = .binOp bop t x y yt) (h : lop P env L o K = some r) : Res P env L o K r := by
  obtain ⟨dst, op, ty, pos, after, guard⟩ := o
  simp only at ho
  subst ho
  simp only [lop, ev_eq, obind_iff] at h
  obtain ⟨v, h1, u, h2, h3⟩ := h
  obtain ⟨z, h4, h5, h6⟩ := lbin_ok h3
  have h5' := h5
  refine .pure z h4 (fun L2 K2 => by simp only [lop, ev_eq, h1, h2, obind_some, h5']) fun m w a _ he => ?_
  obtain ⟨h7, h8⟩ := h6 m _ _ x y w (he.eval h1) (he.eval h2)
  refine ⟨z, ?_, .flat1 h8⟩
  have e : (execOp a.eval ⟨dst, .binOp bop t x y yt, ty, pos, after, guard⟩) = (do let v ← (do eqGuard bop t x y (a.eval x) (a.eval y); binOp bop t (a.eval x) (a.eval y)); pure (.value v)) := rfl
  rw [e, Sem.run_bind, h7]
  rfl

theorem lop_unOp {uop : UnOp} {t : TypeId} {x : Operand} (ho : o.op = .unOp uop t x) (h : lop P env L o K = some r) : Res P env L o K r := by
  obtain ⟨dst, op, ty, pos, after, guard⟩ := o
  simp only at ho
  subst ho
  simp only [lop, ev_eq, obind_iff] at h
  obtain ⟨v, h1, h3⟩ := h
  obtain ⟨z, h4, h5, h6⟩ := lun_ok h3
  refine .pure z h4 (fun L2 K2 => by simp only [lop, ev_eq, h1, obind_some, h5]) fun m w a _ he => ?_
  obtain ⟨h7, h8⟩ := h6 P m _ w (he.eval h1)
  exact ⟨z, by simp [execOp, h7], .flat1 h8⟩

theorem lop_makeInterface {t : TypeId} {x : Operand} (ho : o.op = .makeInterface t x) (h : lop P env L o K = some r) : Res P env L o K r := by
  obtain ⟨dst, op, ty, pos, after, guard⟩ := o
  simp only at ho
  subst ho
  simp only [lop, ev_eq, obind_iff] at h
  obtain ⟨v, h1, h3⟩ := h
  split at h3
  · cases h3
  · cases h3
  rename_i d hi hu
  refine .pure _ h3 (fun L2 K2 => by
    simp only [lop, ev_eq, h1, obind_some, hu]) fun m w a _ he => ⟨_, ?_, .iface (he.eval h1)⟩
  have : (Instr.makeInterface t (a.eval x)).run P w = .ok (.iface t (a.eval x)) w := by
    simp only [Instr.makeInterface, Sem.run_bind, run_underlying hu, Result.andThen_ok]
    cases d <;> first | rfl | exact absurd rfl (hi _)
  simp [execOp, this]

theorem lop_makeFunc {f : FuncId} {xs ys : Array Operand} (ho : o.op = .makeFunc (.func f) xs ys) (h : lop P env L o K = some r) : Res P env L o K r := by
  obtain ⟨dst, op, ty, pos, after, guard⟩ := o
  simp only at ho
  subst ho
  simp only [lop, evs_eq, obind_iff] at h
  obtain ⟨as, h1, bs, h2, h3⟩ := h
  refine .pure _ h3 (fun L2 K2 => by simp only [lop, evs_eq, h1, h2, obind_some]) fun m w a _ he => ?_
  refine ⟨.func (.func f) (xs.map a.eval) (ys.map a.eval), by simp [execOp, Instr.makeFunc], ?_⟩
  have e : Value.func (.func f) (xs.map a.eval) (ys.map a.eval) = .func (.func f) ⟨xs.toList.map a.eval⟩ ⟨ys.toList.map a.eval⟩ := by rw [arr_map xs, arr_map ys]
  rw [e]
  exact .func (he.evals h1) (he.evals h2)

theorem lop_extract {x : Operand} {j : Nat} (ho : o.op = .extract x j) (h : lop P env L o K = some r) : Res P env L o K r := by
  obtain ⟨dst, op, ty, pos, after, guard⟩ := o
  simp only at ho
  subst ho
  simp only [lop, ev_eq, obind_iff] at h
  obtain ⟨v, h1, h2⟩ := h
  split at h2
  case h_2 => cases h2
  rename_i vs
  rw [obind_iff] at h2
  obtain ⟨u, h3, h4⟩ := h2
  refine .pure _ h4 (fun L2 K2 => by simp only [lop, ev_eq, h1, obind_some, h3]) fun m w a _ he => ?_
  obtain ⟨vs', h5, h6⟩ := (he.eval h1).of_tuple
  obtain ⟨u', h7, h8⟩ := h6.get h3
  refine ⟨u', ?_, h8⟩
  have h9 : vs'[j]? = some u' := by simpa using h7
  simp [execOp, h5, Instr.extract, h9]

end
end Go.Rlm

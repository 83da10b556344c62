/- The logical machine and the model: code, functions. -/
import Derived.Test.YtlcchghlhfamjaaRlmS17
namespace Go.Rlm

def exitOf : LExit → Exit
  | .normal => .normal
  | .exit id => .exit id
  | .ret => .ret

/-- What is asked of the end of a piece of code. -/
structure Aim (P : Program) (m : RMap) (L : LHeap) (w : World) (ds : List Deferred) (N : Nat) (r : LR) (K : LK) (Q : Exit → Act → World → Prop) : Prop where
  go : ∀ e env' L' m' w' a', K e env' L' = some r → Rep P m' L' w' → ER m' env' a'.tmps → Tr m L w m' L' w' → a'.defers = ds → a'.tmps.size = N → Q (exitOf e) a' w'
  pan : ∀ v L' m' w' v' a', r = .pan v L' → VR m' v v' → Rep P m' L' w' → Tr m L w m' L' w' → a'.defers = ds → Q (.panic [{ v := v', recovered := false }]) a' w'

theorem Aim.trans {P : Program} {m : RMap} {L : LHeap} {w : World} {ds : List Deferred} {N : Nat} {r : LR} {K : LK} {Q : Exit → Act → World → Prop} (h : Aim P m L w ds N r K Q)
    {m1 : RMap} {L1 : LHeap} {w1 : World} (ht : Tr m L w m1 L1 w1) : Aim P m1 L1 w1 ds N r K Q :=
  ⟨fun e env' L' m' w' a' h1 h2 h3 h4 => h.go e env' L' m' w' a' h1 h2 h3 (ht.trans h4), fun v L' m' w' v' a' h1 h2 h3 h4 => h.pan v L' m' w' v' a' h1 h2 h3 (ht.trans h4)⟩

theorem look_keep {env : Env} {t : Nat} {v : Value} : ∀ {ts : List Nat}, look (keep env ts) t = some v → look env t = some v
  | [], h => by cases h
  | s :: ts, h => by
    unfold keep at h
    split at h
    · rename_i u hu
      simp only [look, hif_eq, cond_eq_ite] at h
      split at h
      · rename_i hb
        rw [Nat.eq_of_beq_eq_true hb] at hu
        rw [hu]; exact h
      · exact look_keep h
    · exact look_keep h

theorem ER.keep {m : RMap} {env : Env} {tmps : Array Value} (h : ER m env tmps) (ts : List Nat) : ER m (Rlm.keep env ts) tmps := fun t v hv => h t v (look_keep hv)

theorem mem_replicate_false {n k : Nat} : (Array.replicate n false)[k]? ≠ some true := by
  rw [Array.getElem?_replicate]
  split <;> simp

section
variable {P : Program} {T : Nat → List Nat} {N : Nat} {call : Caller} {n : Nat} {r : LR}

theorem region_open (hm : P.follows .mixedOrders = true) (hc : CallOk P call) {id : Nat} {ops : Array Oper} {K : LK} {Q : Exit → Act → World → Prop} {env : Env} {L : LHeap} {m : RMap} {w : World} {a : Act}
    (hd : dstOk N ops.toList = true) (ho : ordered ops.toList (befores ops.toList []) = true) (h : ldraw P call ops.toList (befores ops.toList []) 0 ops.toList env L [] [] (K .normal) = some r)
    (hr : Rep P m L w) (he : ER m env a.tmps) (hN : a.tmps.size = N) (hA : Aim P m L w a.defers N r K Q) : (Code.region id ops true).wp P Q a w := by
  obtain ⟨tr, e', L', h1, h2⟩ := ldraw_trc ops.toList 0 env L [] [] (fun _ _ h => by cases h) h
  have hS : Setting P call ops tr env L e' L' := ⟨h1, ho⟩
  refine wp_region_any hm ?_
  refine any_ok (m0 := m) (w0 := w) (ds := a.defers) hc hS hd (fun m' w' a' k1 k2 k3 k4 k5 => hA.go .normal e' L' m' w' a' h2 k1 k3 k2 k4 k5) ops.size _ a _ ?_ ?_
  · refine ⟨by simp, fun j i hj => absurd hj mem_replicate_false, ⟨m, 0, Nat.zero_le _, fun q rc hq => by omega, fun q rc _ hq _ => ?_, ?_, ?_, fun t i rc o _ _ hl => absurd hl mem_replicate_false, fun t _ v hv => he t v hv⟩, rfl, hN⟩
    · have := (List.getElem?_eq_some_iff.1 hq).1
      rw [hS.len] at this
      rw [Array.getElem?_replicate, if_pos this]
    · rw [hS.start.2]; exact hr.drew _
    · rw [hS.start.2]; exact (Tr.refl m L w).drew
  · rw [Array.toList_replicate, List.count_replicate]
    simp

theorem lloop_ok {b : Code}
    (hb : ∀ (K : LK) (Q : Exit → Act → World → Prop) (env : Env) (L : LHeap) (m : RMap) (w : World) (a : Act), lexec P T N call n b K env L = some r → Rep P m L w → ER m env a.tmps → a.tmps.size = N → Aim P m L w a.defers N r K Q → b.wp P Q a w)
    {K : LK} {Q : Exit → Act → World → Prop} {lv : List Nat} : ∀ (k : Nat) (env : Env) (L : LHeap) (m : RMap) (w : World) (a : Act), lloop (lexec P T N call n b) lv K k env L = some r → Rep P m L w → ER m env a.tmps → a.tmps.size = N →
      Aim P m L w a.defers N r K Q → Code.rounds P b Q k a w
  | 0, env, L, m, w, a, h, _, _, _, _ => by cases h
  | k + 1, env, L, m, w, a, h, hr, he, hN, hA => by
    rw [rounds_succ]
    refine hb _ _ env L m w a h hr he hN ⟨fun e env' L' m' w' a' h1 h2 h3 h4 h5 h6 => ?_, fun v L' m' w' v' a' h1 h2 h3 h4 h5 => hA.pan v L' m' w' v' a' h1 h2 h3 h4 h5⟩
    cases e with
    | normal =>
      refine lloop_ok hb k _ L' m' w' a' h1 h2 (h3.keep lv) h6 ?_
      rw [h5]
      exact hA.trans h4
    | exit id => exact hA.go (.exit id) env' L' m' w' a' h1 h2 h3 h4 h5 h6
    | ret => exact hA.go .ret env' L' m' w' a' h1 h2 h3 h4 h5 h6

/-- **The model follows the machine.** -/
theorem lexec_ok (hm : P.follows .mixedOrders = true) (hc : CallOk P call) (c : Code) : ∀ (K : LK) (Q : Exit → Act → World → Prop) (env : Env) (L : LHeap) (m : RMap) (w : World) (a : Act),
    lexec P T N call n c K env L = some r → Rep P m L w → ER m env a.tmps → a.tmps.size = N → Aim P m L w a.defers N r K Q → c.wp P Q a w := by
  induction c with
  | skip => exact fun K Q env L m w a h hr he hN hA => wp_skip (hA.go .normal env L m w a h hr he (.refl m L w) rfl hN)
  | region id ops draw =>
    intro K Q env L m w a h hr he hN hA
    have h : (hif (dstOk N ops.toList)
        (hif draw (hif (ordered ops.toList (befores ops.toList [])) (ldraw P call ops.toList (befores ops.toList []) 0 ops.toList env L [] [] (K .normal)) none)
          (lrun P call ops.toList 0 ops.toList env L (K .normal)))
        none) = some r := h
    rw [cond_iff] at h
    obtain ⟨hd, h⟩ := h
    cases draw with
    | true =>
      rw [hif_true, cond_iff] at h
      exact region_open hm hc hd h.1 h.2 hr he hN hA
    | false =>
      rw [hif_false] at h
      exact wp_region_list (lrun_ok hc ops.toList 0 env L m w a h hd hr he hN ⟨fun env' L' m' w' a' k1 k2 k3 k4 k5 k6 => hA.go .normal env' L' m' w' a' k1 k2 k3 k4 k5 k6, hA.pan⟩)
  | seq x y ihx ihy =>
    intro K Q env L m w a h hr he hN hA
    refine wp_seq (ihx _ _ env L m w a h hr he hN ⟨fun e env' L' m' w' a' h1 h2 h3 h4 h5 h6 => ?_, fun v L' m' w' v' a' h1 h2 h3 h4 h5 => hA.pan v L' m' w' v' a' h1 h2 h3 h4 h5⟩)
    cases e with
    | normal => exact ihy K Q env' L' m' w' a' h1 h2 h3 h6 (by rw [h5]; exact hA.trans h4)
    | exit id => exact hA.go (.exit id) env' L' m' w' a' h1 h2 h3 h4 h5 h6
    | ret => exact hA.go .ret env' L' m' w' a' h1 h2 h3 h4 h5 h6
  | cond x c1 c2 ih1 ih2 =>
    intro K Q env L m w a h hr he hN hA
    have h : (ev env x fun v => match v with
      | .bool t => lif t (lexec P T N call n c1 K env L) (lexec P T N call n c2 K env L)
      | _ => none) = some r := h
    rw [ev_eq, obind_iff] at h
    obtain ⟨v, h1, h2⟩ := h
    split at h2
    case h_2 => cases h2
    have hv := (he.eval h1).of_bool
    rw [lif_iff] at h2
    rcases h2 with ⟨rfl, h2⟩ | ⟨rfl, h2⟩
    · exact wp_cond_true hv (ih1 K Q env L m w a h2 hr he hN hA)
    · exact wp_cond_false hv (ih2 K Q env L m w a h2 hr he hN hA)
  | block id b ih =>
    intro K Q env L m w a h hr he hN hA
    refine wp_block (ih _ _ env L m w a h hr he hN ⟨fun e env' L' m' w' a' h1 h2 h3 h4 h5 h6 => ?_, fun v L' m' w' v' a' h1 h2 h3 h4 h5 => hA.pan v L' m' w' v' a' h1 h2 h3 h4 h5⟩)
    cases e with
    | normal => exact hA.go .normal env' L' m' w' a' h1 h2 h3 h4 h5 h6
    | exit id' =>
      simp only [exitOf, Exit.inBlock]
      have h1 : (hif (Nat.beq id' id) (K .normal env' L') (K (.exit id') env' L')) = some r := h1
      split
      · rename_i hid
        rw [hid, Nat.beq_refl, hif_true] at h1
        exact hA.go .normal env' L' m' w' a' h1 h2 h3 h4 h5 h6
      · rename_i hid
        have : Nat.beq id' id = false := by
          cases hq : Nat.beq id' id with
          | false => rfl
          | true => exact absurd (Nat.eq_of_beq_eq_true hq) hid
        rw [this, hif_false] at h1
        exact hA.go (.exit id') env' L' m' w' a' h1 h2 h3 h4 h5 h6
    | ret => exact hA.go .ret env' L' m' w' a' h1 h2 h3 h4 h5 h6
  | loop b ih =>
    intro K Q env L m w a h hr he hN hA
    exact wp_loop_rounds n (lloop_ok ih n _ L m w a h hr (he.keep _) hN hA)
  | rangeFunc f params assign body => intro K Q env L m w a h; cases h
  | exit id => exact fun K Q env L m w a h hr he hN hA => wp_exit (hA.go (.exit id) env L m w a h hr he (.refl m L w) rfl hN)
  | scope b ih =>
    intro K Q env L m w a h hr he hN hA
    refine wp_scope_straight (ih K _ env L m w a h hr he hN ⟨fun e env' L' m' w' a' h1 h2 h3 h4 h5 h6 => ?_, fun v L' m' w' v' a' h1 h2 h3 h4 h5 => hA.pan v L' m' w' v' a' h1 h2 h3 h4 h5⟩)
    have := hA.go e env' L' m' w' a' h1 h2 h3 h4 h5 h6
    cases e <;> exact this
  | label l => exact fun K Q env L m w a h hr he hN hA => wp_label (hA.go .normal env L m w a h hr he (.refl m L w) rfl hN)
  | goto l => intro K Q env L m w a h; cases h
  | ret => exact fun K Q env L m w a h hr he hN hA => wp_ret (hA.go .ret env L m w a h hr he (.refl m L w) rfl hN)
  | refuse s => intro K Q env L m w a h; cases h

end

/-! ### Functions -/

def resAt (tmps : Array Value) : ResultVar → Sem Value
  | .tmp t => pure (tmps.getD t undef)
  | .cell a t => do loadVar t (← asAddr (tmps.getD a undef))

theorem lresults_ok {P : Program} {env : Env} {L : LHeap} {r : LR} {m : RMap} {w : World} {tmps : Array Value} (hr : Rep P m L w) (he : ER m env tmps) : ∀ (rs : List ResultVar) (K : List Value → R), lresults P env L rs K = some r →
    ∃ vs vs', K vs = some r ∧ VRs m vs vs' ∧ (rs.mapM (resAt tmps)).run P w = .ok vs' w
  | [], K, h => ⟨[], [], h, .nil, by simp⟩
  | .tmp t :: rs, K, h => by
    unfold lresults at h
    rw [ev_eq, obind_iff] at h
    obtain ⟨v, h1, h2⟩ := h
    obtain ⟨v', h3, h4⟩ := he t v h1
    obtain ⟨vs, vs', k1, k2, k3⟩ := lresults_ok hr he rs _ h2
    refine ⟨v :: vs, v' :: vs', k1, .cons h4 k2, ?_⟩
    have : tmps.getD t undef = v' := by simp [Array.getD_eq_getD_getElem?, h3]
    simp [List.mapM_cons, resAt, this, k3]
  | .cell t ty :: rs, K, h => by
    unfold lresults at h
    rw [ev_eq, obind_iff] at h
    obtain ⟨v, h1, h2⟩ := h
    split at h2
    case h_2 => cases h2
    obtain ⟨p, h3, h4⟩ := he t _ h1
    obtain ⟨i, hi, hp⟩ := h4.of_ptr
    obtain ⟨u, k1, _, k3⟩ := loadT_ok h2
    obtain ⟨u', k4, k5⟩ := k3 m w i hr hi
    obtain ⟨vs, vs', k6, k7, k8⟩ := lresults_ok hr he rs _ k1
    refine ⟨u :: vs, u' :: vs', k6, .cons k5 k7, ?_⟩
    have : tmps.getD t undef = p := by simp [Array.getD_eq_getD_getElem?, h3]
    simp [List.mapM_cons, resAt, this, hp, asAddr, k4, k8]

theorem results_eq (fn : Func) (tmps : Array Value) : results fn tmps = fn.results.mapM (resAt tmps) >>= fun vs => Pure.pure (if h : vs.size = 1 then vs[0] else .tuple vs) := by
  unfold results
  congr 2

theorem run_results {P : Program} {fn : Func} {tmps : Array Value} {w : World} {vs : List Value} (h : (fn.results.toList.mapM (resAt tmps)).run P w = .ok vs w) :
    (results fn tmps).run P w = .ok (match vs with | [v] => v | vs => .tuple vs.toArray) w := by
  rw [results_eq, Array.mapM_eq_mapM_toList]
  simp only [Sem.run_bind, Sem.run_map, h, Result.andThen_ok]
  match vs with
  | [] => simp
  | [v] => simp
  | a :: b :: l => simp

theorem look_enum {t : Nat} {v : Value} : ∀ {args : List Value} {i : Nat}, look (enum args i) t = some v → i ≤ t ∧ args[t - i]? = some v
  | [], _, h => by cases h
  | x :: xs, i, h => by
    unfold enum at h
    simp only [look, hif_eq, cond_eq_ite] at h
    split at h
    · rename_i hb
      rw [← Nat.eq_of_beq_eq_true hb, Nat.sub_self]
      exact ⟨Nat.le_refl _, h⟩
    · obtain ⟨h1, h2⟩ := look_enum h
      refine ⟨by omega, ?_⟩
      rw [show t - i = t - (i + 1) + 1 by omega]
      simpa using h2

/-- **Calls are followed.** -/
theorem lcall_ok {P : Program} {T : Nat → Nat → List Nat} (hm : P.follows .mixedOrders = true) (hn : P.funcs.all (fun fn => !(fn.name == "runtime.NumGoroutine")) = true) : ∀ n, CallOk P (lcall P T n)
  | 0 => ⟨(fun f args L r h => by cases h), (fun f args L r h => by cases h)⟩
  | n + 1 => by
    have hc := lcall_ok (T := T) hm hn n
    refine ⟨fun f args L r h m w args' hr hv => ?_, fun f args L r h args' w => ?_⟩
    · unfold lcall at h
      split at h
      case h_2 => cases h
      rename_i fn hf
      split at h
      case h_2 => cases h
      rename_i c hb
      rw [cond_iff] at h
      obtain ⟨hl, h⟩ := h
      have hl : args.length ≤ fn.ntmps := Nat.le_of_ble_eq_true hl
      refine calls_of_wp hf hb (lexec_ok (N := fn.ntmps) hm hc c _ _ _ L m w _ h hr (fun t v ht => ?_) ?_ ⟨fun e env' L' m' w' a' k1 k2 k3 k4 k5 k6 => ?_, fun v L' m' w' v' a' k1 k2 k3 k4 k5 => ⟨k5, ?_⟩⟩)
      · obtain ⟨_, h2⟩ := look_enum ht
        obtain ⟨v', h3, h4⟩ := hv.get (j := t) (by simpa using h2)
        have := (List.getElem?_eq_some_iff.1 h3).1
        exact ⟨v', by rw [Array.getElem?_append_left (by simpa using this)]; simpa using h3, h4⟩
      · have := hv.length
        simp; omega
      · have key : lresults P env' L' fn.results.toList (fun vs => match vs with | [v] => some (.ret v L') | vs => some (.ret (.tuple vs.toArray) L')) = some r → a'.defers = [] ∧ ∃ v, (results fn a'.tmps).run P w' = .ok v w' ∧ Ends P m L w r (.returned v) w' := fun h => by
          obtain ⟨vs, vs', g1, g2, g3⟩ := lresults_ok k2 k3 _ _ h
          refine ⟨k5, _, run_results g3, ?_⟩
          cases g2 with
          | nil => injection g1 with g1; subst g1; exact ⟨m', _, rfl, .tuple .nil, k2, k4⟩
          | cons x xs =>
            cases xs with
            | nil => injection g1 with g1; subst g1; exact ⟨m', _, rfl, x, k2, k4⟩
            | cons y ys => injection g1 with g1; subst g1; exact ⟨m', _, rfl, .tuple (.cons x (.cons y ys)), k2, k4⟩
        cases e with
        | normal => exact key k1
        | exit id => cases k1
        | ret => exact key k1
      · rw [k1]; exact ⟨m', v', rfl, k2, k3, k4⟩
    · unfold lcall at h
      split at h
      case h_2 => cases h
      rename_i fn hf
      split at h
      case h_2 => cases h
      rename_i c hb
      have hname : (fn.name == "runtime.NumGoroutine") = false := by
        have hlt := (Array.getElem?_eq_some_iff.1 hf)
        have := Array.all_eq_true.1 hn f hlt.1
        rw [hlt.2] at this
        simpa using this
      have hname2 : ¬ fn.name = "runtime.NumGoroutine" := by simpa using hname
      simp [callFunc, hf, hname2, hb]

end Go.Rlm

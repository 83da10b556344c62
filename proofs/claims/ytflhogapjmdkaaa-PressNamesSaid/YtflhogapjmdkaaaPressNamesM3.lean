/- The logical machine, its likeness to the model, and the contracts of the functions that the law calls. Printed by pack.py, a program of this work, out of its texts; what the law does not use is left out. -/
import Derived.Test.YtflhogapjmdkaaaPressNamesM2
import Derived.Test.YtflhogapjmdkaaaProg
import Derived.KernelRfl
import Derived.Defers
import Derived.Recover
section
set_option maxRecDepth 100000
namespace Go.Proofs.Ytflhogapjmdkaaa.X
open Go Go.Rlm
/-- It does something; OK, or the error at which it was stopped. -/
def caughtSpec : Go.Rlm.Spec := fun call args L =>
  match args with
  | [fv] =>
    match lappF call fv [] (L ++ [.cells [.int .i64 0] 24 false 0]) with
    | some (.ret _ L2) => obind (stores L2 ⟨L.length, 0, none⟩ [.int .i64 0]) fun L3 => some (.ret (.int .i64 0) L3)
    | some (.pan (.iface t (.int k n)) L2) => hif (Nat.beq t 24 && decide (k = .i64)) (obind (stores L2 ⟨L.length, 0, none⟩ [.int .i64 n]) fun L3 => some (.ret (.int .i64 n) L3)) none
    | _ => none
  | _ => none
section
variable {P : Program} {Q : Exit → Act → World → Prop} {ops : Array Oper} {o : Oper} {rest : List Oper} {a : Act} {w w' : World}
theorem wpList_value (hg : o.guard = none) {v : Value} (h : (execOp a.eval o).run P w = .ok (.value v) w') (k : wpList P ops Q rest (a.put o.dst v) w') : wpList P ops Q (o :: rest) a w := by
  unfold wpList
  rw [if_pos (by simp [Region.wanted, hg])]
  exact .inl (by unfold Oper.wp; rw [h]; exact k)
theorem wpList_defer (hg : o.guard = none) {d : Deferred} (h : (execOp a.eval o).run P w = .ok (.defer d) w') (k : wpList P ops Q rest ({ a with defers := d :: a.defers }.put o.dst undef) w') : wpList P ops Q (o :: rest) a w := by
  unfold wpList
  rw [if_pos (by simp [Region.wanted, hg])]
  exact .inl (by unfold Oper.wp; rw [h]; exact k)
theorem wpList_enter (hg : o.guard = none) {f : FuncId} {args : Array Value} (h : (execOp a.eval o).run P w = .ok (.enter f args) w')
    (k : Calls P f args w' fun
      | .returned v, w'' => wpList P ops Q rest (a.put o.dst v) w''
      | .panicked chain, w'' => Q (.panic chain) a w''
      | .outgrown, _ => LetsOut Q) : wpList P ops Q (o :: rest) a w := by
  unfold wpList
  rw [if_pos (by simp [Region.wanted, hg])]
  exact .inl (by unfold Oper.wp; rw [h]; exact k)
end
def T0 : Nat → List Nat := fun _ => []
def call0 : Caller := fun _ _ _ => none
theorem call0_ok {P : Program} : CallOk P call0 := ⟨(fun _ _ _ _ _ h => by cases h), (fun _ _ _ _ _ h => by cases h), (fun _ _ _ _ h => by cases h)⟩
/-- A piece of code that is the machine's, outside. -/
theorem wp_machine {P : Program} {c : Code} {f N n : Nat} {call : Caller} {r : LR} {K : LK} {env : Env} {L : LHeap} {m : RMap} {w : World} {a : Act} {Q : Exit → Act → World → Prop}
    (hm : P.follows .mixedOrders = true) (hc : CallOk P call) (hcf : ∃ fn cf, P.funcs[f]? = some fn ∧ fn.body = some cf ∧ fn.ntmps = N) (hn : rids c = [])
    (h : lexec P T0 f N call n c K env L = some r) (hr : Rep P m L w) (he : ER m env a.tmps) (hN : a.tmps.size = N)
    (hA : Aim P m L w (fun _ ds => ds = a.defers) N r K Q) : c.wp P Q a w := by
  obtain ⟨fn, cf, h1, h2, h3⟩ := hcf
  exact (wpIn_wide (n := 0)).1 (lexec_ok (D := fun _ ds => ds = a.defers) (ro := none) (B := 0) (cf := cf) (fun h _ _ => h) hm hc ⟨fn, h1, h2, h3⟩ c (okR_nil hn) (.inl hn) K Q env L m w a h hr he hN rfl (Nat.zero_le _) hA)
theorem func25 : Try.prog.funcs[25]? = some Try.f25 := by kernel_rfl
theorem func45 : Try.prog.funcs[45]? = some Try.f45 := by kernel_rfl
/-- What stands behind 'recover' in the deferred function. -/
noncomputable def rest45 : Code :=
  match Try.f45.body with
  | some (.seq _ b) => b
  | _ => .skip
theorem body45 : Try.f45.body = some (.seq (.region 0 #[{ dst := some 4, op := .call { callee := .builtin .recover, args := #[], argTypes := #[] }, type := 20, pos := "block.go:67", after := #[], guard := none }] false) rest45) := by kernel_rfl
theorem mixed : Try.prog.follows .mixedOrders = true := by kernel_rfl
def endK : LK := fun e _ L =>
  match e with
  | .normal => some (.ret (.tuple #[]) L)
  | _ => none
theorem run_nil {L : LHeap} : lexec Try.prog T0 45 11 call0 0 rest45 endK [(4, .nilIface)] L = some (.ret (.tuple #[]) L) := by kernel_rfl
theorem run_err {L : LHeap} {ad : Addr} {n : Int} : lexec Try.prog T0 45 11 call0 0 rest45 endK [(4, .iface 24 (.int .i64 n)), (0, .pointer (some ad))] L = obind (stores L ad [.int .i64 n]) (fun L' => some (.ret (.tuple #[]) L')) := by kernel_rfl
/-- The deferred function, nothing having been stopped: nothing. -/
theorem quiet45 {p : Value} {m : RMap} {L : LHeap} {w : World} (hr : Rep Try.prog m L w) : CallsD Try.prog 45 #[p] .returning w fun e u' w' => (∃ v, e = .returned v) ∧ u' = .returning ∧ ∃ m', Rep Try.prog m' L w' ∧ Tr m L w m' L w' := by
  refine callsD_of_wpS func45 body45 fun c₀ cs hu => ?_
  refine wpS_seq (wpS_region ?_)
  simp only [List.size_toArray, List.length_cons, List.length_nil, Nat.reduceAdd, List.range_succ, List.range_zero, List.nil_append]
  simp [wpOpsS, execOp, resolve, invoke, builtin, Region.wanted, recoverD, hu, Act.put]
  refine wpS_of_wp (wp_machine (r := .ret (.tuple #[]) L) (N := 11) (n := 0) (K := endK) mixed call0_ok ⟨_, _, func45, body45, rfl⟩ (by kernel_rfl) run_nil hr (env := [(4, .nilIface)]) ?_ ?_ ⟨?_, ?_⟩)
  · intro t v ht
    simp only [Go.Rlm.look, cond_eq_ite] at ht
    split at ht
    · rename_i hb
      have := Nat.eq_of_beq_eq_true hb
      subst this
      injection ht with ht
      subst ht
      exact ⟨.nilIface, rfl, .flat1 rfl⟩
    · cases ht
  · rfl
  · intro e env' L' m' w' a' h1 h2 h3 h4 h5 h6
    cases e with
    | normal =>
      injection h1 with h1
      injection h1 with _ h1
      subst h1
      have hd : a'.defers = [] := h5
      refine ⟨hd, .returning, by rw [← hu], Value.tuple #[], by simp [results, Try.f45], ⟨_, rfl⟩, rfl, m', h2, h4⟩
    | exit id => cases h1
    | ret => cases h1
  · intro v L' m' w' v' a' h1
    cases h1
/-- The deferred function, behind an error: it is laid down, and all is well again. -/
theorem stopped45 {m : RMap} {L L3 : LHeap} {w : World} {ad : Addr} {i : Info} {n : Int} (hr : Rep Try.prog m L w) (hi : m ad.block = some i) (hs : stores L ad [.int .i64 n] = some L3) :
    CallsD Try.prog 45 #[.pointer (some (i.at ad))] (.panicking [{ v := .iface 24 (.int .i64 n), recovered := false }]) w fun e u' w' =>
      (∃ v, e = .returned v) ∧ u' = .panicking [{ v := .iface 24 (.int .i64 n), recovered := true }] ∧ ∃ m', Rep Try.prog m' L3 w' ∧ Tr m L w m' L3 w' := by
  refine callsD_of_wpS func45 body45 fun c₀ cs hu => ?_
  refine wpS_seq (wpS_region ?_)
  simp only [List.size_toArray, List.length_cons, List.length_nil, Nat.reduceAdd, List.range_succ, List.range_zero, List.nil_append]
  simp [wpOpsS, execOp, resolve, invoke, builtin, Region.wanted, recoverD, hu, Act.put]
  refine wpS_of_wp (wp_machine (r := .ret (.tuple #[]) L3) (N := 11) (n := 0) (K := endK) mixed call0_ok ⟨_, _, func45, body45, rfl⟩ (by kernel_rfl) (by rw [run_err, hs, obind_some]) hr (env := [(4, .iface 24 (.int .i64 n)), (0, .pointer (some ad))]) ?_ ?_ ⟨?_, ?_⟩)
  · intro t v ht
    simp only [Go.Rlm.look, cond_eq_ite] at ht
    split at ht
    · rename_i hb
      have := Nat.eq_of_beq_eq_true hb
      subst this
      injection ht with ht
      subst ht
      exact ⟨_, rfl, .iface (.flat1 rfl)⟩
    · split at ht
      · rename_i hb
        have := Nat.eq_of_beq_eq_true hb
        subst this
        injection ht with ht
        subst ht
        exact ⟨_, rfl, .ptr hi⟩
      · cases ht
  · rfl
  · intro e env' L' m' w' a' h1 h2 h3 h4 h5 h6
    cases e with
    | normal =>
      injection h1 with h1
      injection h1 with _ h1
      subst h1
      have hd : a'.defers = [] := h5
      exact ⟨hd, _, rfl, Value.tuple #[], by simp [results, Try.f45], ⟨_, rfl⟩, rfl, m', h2, h4⟩
    | exit id => cases h1
    | ret => cases h1
  · intro v L' m' w' v' a' h1
    cases h1
noncomputable def p0 : Code :=
  match Try.f25.body with
  | some (.seq a _) => a
  | _ => .skip
noncomputable def p3 : Code :=
  match Try.f25.body with
  | some (.seq _ (.seq _ (.seq _ c))) => c
  | _ => .skip
def o1 : Array Oper := #[{ dst := some 3, op := .makeFunc (.func 45) #[] #[.tmp 2], type := 1, pos := "block.go:66", after := #[], guard := none },
  { dst := none, op := .defer { callee := .value (.tmp 3), args := #[], argTypes := #[] }, type := 0, pos := "block.go:66", after := #[{ on := 0, ground := .data }], guard := none }]
def o2 : Array Oper := #[{ dst := some 4, op := .move (.tmp 0), type := 1, pos := "block.go:75", after := #[], guard := none },
  { dst := some 5, op := .call { callee := .value (.tmp 4), args := #[], argTypes := #[] }, type := 0, pos := "block.go:75", after := #[{ on := 0, ground := .data }], guard := none }]
theorem body25 : Try.f25.body = some (.seq p0 (.seq (.region 1 o1 false) (.seq (.region 2 o2 false) p3))) := by kernel_rfl
theorem run_p0 {K : LK} {fv : Value} {L : LHeap} : lexec Try.prog T0 25 6 call0 0 p0 K [(0, fv)] L = K .normal [(2, .pointer (some ⟨L.length, 0, none⟩)), (0, fv)] (L ++ [.cells [.int .i64 0] 24 false 0]) := by kernel_rfl
theorem run_p3 {K : LK} {ad : Addr} {L : LHeap} : lexec Try.prog T0 25 6 call0 0 p3 K [(2, .pointer (some ad))] L = obind (stores L ad [.int .i64 0]) (fun L' => K .ret [(2, .pointer (some ad))] L') := by kernel_rfl
theorem res25 {K : List Value → R} {ad : Addr} {L : LHeap} : lresults Try.prog [(2, .pointer (some ad))] L Try.f25.results.toList K = obind ((cell L ad).bind (asI .i64)) (fun n => K [.int .i64 n]) := by kernel_rfl
theorem cell_stored {L L' : LHeap} {ad : Addr} {v : Value} (h : stores L ad [v] = some L') : cell L' ad = some v := by
  unfold stores at h
  split at h
  · cases h
  rename_i hs
  split at h
  case h_2 => cases h
  rename_i cs e sp hr
  simp only [cond_eq_ite] at h
  split at h
  case isFalse => cases h
  rename_i hle
  simp only [Nat.ble_eq, List.length_singleton] at hle
  injection h with h
  subst h
  have hlt := (List.getElem?_eq_some_iff.1 hr).1
  unfold cell
  rw [hs]
  simp only [List.getElem?_set_self hlt, setAll]
  rw [List.getElem?_set_self (by omega)]
theorem ER.one {m : RMap} {tmps : Array Value} {t : Nat} {v v' : Value} (h : tmps[t]? = some v') (hv : VR m v v') : ER m [(t, v)] tmps := by
  intro q u hu
  simp only [Go.Rlm.look, cond_eq_ite] at hu
  split at hu
  · rename_i hb
    have := Nat.eq_of_beq_eq_true hb
    subst this
    injection hu with hu
    subst hu
    exact ⟨v', h, hv⟩
  · cases hu
/-- How it leaves. -/
theorem leaves25 {m0 m : RMap} {L0 L3 : LHeap} {w0 w : World} {tmps : Array Value} {ad : Addr} {i : Info} {n : Int} (ht : Tr m0 L0 w0 m L3 w) (hr : Rep Try.prog m L3 w) (hi : m ad.block = some i) (hc : cell L3 ad = some (.int .i64 n))
    (h2 : tmps[2]? = some (.pointer (some (i.at ad)))) : Leaves Try.prog Try.f25 tmps (Go.Rlm.Ends Try.prog m0 L0 w0 (.ret (.int .i64 n) L3)) [] .returning w := by
  obtain ⟨vs, vs', g1, g2, g3⟩ := lresults_ok (r := .ret (.int .i64 n) L3) (K := fun vs => match vs with | [v] => some (.ret v L3) | vs => some (.ret (.tuple vs.toArray) L3)) hr (ER.one h2 (.ptr hi)) Try.f25.results.toList (by
    rw [res25, hc]
    simp)
  refine ⟨_, run_results g3, ?_⟩
  cases g2 with
  | nil => cases g1
  | cons x xs =>
    cases xs with
    | nil =>
      injection g1 with g1
      injection g1 with g1 _
      subst g1
      exact ⟨m, _, rfl, x, hr, ht⟩
    | cons y ys => cases g1
theorem run_inv45 {p : Value} {w : World} : (invoke (.fn (.func 45) #[p]) #[]).run Try.prog w = .ok (.enter 45 #[p]) w := by
  have h := enters_any (P := Try.prog) (by kernel_rfl) func45 body45 [p] w
  simp [invoke] at h ⊢
theorem caught_ok {call : Caller} (hc : CallOk Try.prog call) {args : List Value} {L : LHeap} {r : LR} (h : caughtSpec call args L = some r) {m : RMap} {w : World} {args' : List Value} (hr : Rep Try.prog m L w) (hv : VRs m args args') :
    Calls Try.prog 25 ⟨args'⟩ w (Go.Rlm.Ends Try.prog m L w r) := by
  unfold caughtSpec at h
  split at h
  case h_2 => cases h
  rename_i fv
  cases hv with
  | cons hfv hnil =>
  cases hnil
  rename_i fv'
  refine calls_of_wp_defers func25 body25 ?_
  refine wp_seq (wp_machine (r := .ret (.tuple #[.pointer (some ⟨L.length, 0, none⟩), fv]) (L ++ [.cells [.int .i64 0] 24 false 0])) (N := 6) (n := 0) (K := fun e env L => match e with
    | .normal => obind (Go.Rlm.look env 2) fun x => obind (Go.Rlm.look env 0) fun y => some (.ret (.tuple #[x, y]) L)
    | _ => none) mixed call0_ok ⟨_, _, func25, body25, rfl⟩ (by kernel_rfl) (by rw [run_p0]; rfl) hr (ER.one (t := 0) (v := fv) (v' := fv') rfl hfv) rfl ⟨?_, ?_⟩)
  case refine_2 => intro v L' m' w' v' a' h1; cases h1
  intro e env1 L1 m1 w1 a1 k1 k2 k3 k4 k5 k6
  cases e with
  | exit id => cases k1
  | ret => cases k1
  | normal =>
  simp only [obind_iff] at k1
  obtain ⟨x, q1, y, q2, q3⟩ := k1
  injection q3 with q3
  injection q3 with q3 q4
  injection q3 with q3
  have q5 : x = .pointer (some ⟨L.length, 0, none⟩) ∧ y = fv := by simpa using q3
  obtain ⟨rfl, rfl⟩ := q5
  subst q4
  obtain ⟨p2, g1, g2⟩ := k3 2 _ q1
  obtain ⟨i, hi, rfl⟩ := g2.of_ptr
  obtain ⟨fv1, g3, g4⟩ := k3 0 _ q2
  obtain ⟨tm, df⟩ := a1
  have k5 : df = [] := k5
  subst k5
  simp only at g1 g3 k6
  have hlen : ∀ t, t < 6 → t < tm.size := fun t ht => by rw [k6]; exact ht
  refine wp_seq (wp_region_list (wpList_value (v := .func (.func 45) #[] #[.pointer (some (i.at ⟨L.length, 0, none⟩))]) (w' := w1) rfl ?_ (wpList_defer (d := { target := .fn (.func 45) #[.pointer (some (i.at ⟨L.length, 0, none⟩))], args := #[] }) (w' := w1) rfl ?_ ?_)))
  · simp [execOp, Instr.makeFunc, Act.eval, g1]
  · have h3 := hlen 3 (by omega)
    simp [execOp, resolve, Deferred.ofValue, Act.eval, Act.put, h3]
  have h2 := hlen 2 (by omega)
  have h4' := hlen 4 (by omega)
  unfold lappF at h
  cases y with
  | func fn xs ys =>
    cases fn with
    | func g =>
      simp only at h
      cases hgb : Nat.blt g YB with
      | false => rw [hgb] at h; cases h
      | true =>
      rw [hgb, hif_true] at h
      have hgy : g < YB := by simpa using hgb
      obtain ⟨as', bs', rfl, has, hbs⟩ := g4.of_func
      cases hcall : call g (xs.toList ++ [] ++ ys.toList) (L ++ [.cells [.int .i64 0] 24 false 0]) with
      | none => rw [hcall] at h; cases h
      | some r1 =>
      rw [hcall] at h
      refine wp_seq (wp_region_list (wpList_value (v := .func (.func g) as' bs') (w' := w1) rfl ?_ (wpList_enter (f := g) (args := ⟨as'.toList ++ [] ++ bs'.toList⟩) (w' := w1) rfl ?_ ?_)))
      · have e : (tm.setIfInBounds 3 (.func (.func 45) #[] #[.pointer (some (i.at ⟨L.length, 0, none⟩))]))[0]? = some (.func (.func g) as' bs') := by
          rw [Array.getElem?_setIfInBounds_ne (by omega)]; exact g3
        simp [execOp, Act.eval, Act.put, e]
      · have e : (as' ++ #[] ++ bs' : Array Value) = ⟨as'.toList ++ [] ++ bs'.toList⟩ := by apply Array.ext'; simp
        have e2 := hc.enters g _ _ r1 hgy hcall ⟨as'.toList ++ [] ++ bs'.toList⟩ w1
        rw [← e] at e2 ⊢
        simp [execOp, resolve, invoke, Deferred.ofValue, Act.eval, Act.put, h4']
        simpa using e2
      refine (hc.calls g _ _ r1 hgy hcall m1 w1 _ k2 ((has.append .nil).append hbs)).mono fun e w2 hE => ?_
      cases r1 with
      | ret v L2 =>
        simp only [obind_iff] at h
        obtain ⟨L3, hs, h⟩ := h
        injection h with h
        subst h
        obtain ⟨m2, v', rfl, _, hr2, ht2⟩ := hE
        have hi2 := ht2.ext _ _ hi
        show Code.wp _ p3 _ _ _
        have t2 : ∀ (f3 f4 : Value), ((tm.setIfInBounds 3 f3).setIfInBounds 4 f4)[2]? = some (.pointer (some (i.at ⟨L.length, 0, none⟩))) := fun f3 f4 => by
          rw [Array.getElem?_setIfInBounds_ne (by omega), Array.getElem?_setIfInBounds_ne (by omega)]; exact g1
        refine wp_machine (r := .ret (.tuple #[.pointer (some ⟨L.length, 0, none⟩)]) L3) (N := 6) (n := 0) (K := fun e env L => match e with
          | .ret => obind (Go.Rlm.look env 2) fun x => some (.ret (.tuple #[x]) L)
          | _ => none) (env := [(2, .pointer (some ⟨L.length, 0, none⟩))]) mixed call0_ok ⟨_, _, func25, body25, rfl⟩ (by kernel_rfl) (by rw [run_p3, hs, obind_some]; rfl) hr2 (ER.one (t := 2) ?_ (.ptr hi2)) ?_ ⟨?_, ?_⟩
        · simp only [Act.put]
          rw [Array.getElem?_setIfInBounds_ne (by omega)]
          exact t2 _ _
        · simp [Act.put, k6]
        · intro e env3 L3' m3 w3 a3 p1 p2 p3 p4 p5 p6
          cases e with
          | normal => cases p1
          | exit id => cases p1
          | ret =>
            rw [obind_iff] at p1
            obtain ⟨x, q1, q3⟩ := p1
            injection q3 with q3
            injection q3 with q3 q4
            injection q3 with q3
            have q5 : x = .pointer (some ⟨L.length, 0, none⟩) := by simpa using q3
            subst q5
            subst q4
            obtain ⟨pp, s1, s2⟩ := p3 2 _ q1
            have hi3 := p4.ext _ _ hi2
            obtain ⟨i3, hi3', rfl⟩ := s2.of_ptr
            rw [hi3] at hi3'
            injection hi3' with hi3'
            subst hi3'
            show Leaves _ _ _ _ a3.defers .returning w3
            rw [show a3.defers = [{ target := .fn (.func 45) #[.pointer (some (i.at ⟨L.length, 0, none⟩))], args := #[] }] from p5]
            refine leaves_cons (by simp) run_inv45 ((quiet45 p2).mono fun e u w4 hq => ?_)
            obtain ⟨⟨v, rfl⟩, rfl, m4, z1, z2⟩ := hq
            exact leaves25 (((k4.trans ht2).trans p4).trans z2) z1 (z2.ext _ _ hi3) (cell_stored hs) s1
        · intro v L' m' w' v' a' h1; cases h1
      | pan v L2 =>
        split at h
        · rename_i heq; cases heq
        · rename_i t k n L2' heq
          injection heq with heq
          injection heq with heq1 heq2
          subst heq1
          subst heq2
          rw [cond_iff, Bool.and_eq_true] at h
          obtain ⟨⟨ht24, hk⟩, h⟩ := h
          have ht24 := Nat.eq_of_beq_eq_true ht24
          have hk := of_decide_eq_true hk
          subst ht24
          subst hk
          rw [obind_iff] at h
          obtain ⟨L3, hs, h⟩ := h
          injection h with h
          subst h
          obtain ⟨m2, v', rfl, hvv, hr2, ht2⟩ := hE
          obtain ⟨u', rfl, hu'⟩ := hvv.of_iface
          have hu' := hu'.of_int
          subst hu'
          have hi2 := ht2.ext _ _ hi
          show Leaves _ _ _ _ _ (.panicking _) w2
          refine leaves_cons (by simp) run_inv45 ((stopped45 hr2 hi2 hs).mono fun e u w4 hq => ?_)
          obtain ⟨⟨v, rfl⟩, rfl, m4, z1, z2⟩ := hq
          refine leaves25 ((k4.trans ht2).trans z2) z1 (z2.ext _ _ hi2) (cell_stored hs) ?_
          simp only [Act.put]
          rw [Array.getElem?_setIfInBounds_ne (by omega), Array.getElem?_setIfInBounds_ne (by omega)]
          exact g1
        · cases h
    | _ => cases h
  | _ => cases h
end Go.Proofs.Ytflhogapjmdkaaa.X
end

section
set_option maxRecDepth 100000
set_option linter.unusedVariables false
namespace Go.Proofs.Ytflhogapjmdkaaa.X
open Go Go.Rlm
/-- The slots that each loop keeps. -/
def keeps : Nat → Nat → List Nat := tlook
  [(3, [(7, [0, 3, 4, 5, 6, 7, 8])]), (4, [(4, [0, 3]), (11, [0, 3, 4, 8])]), (5, [(2, [22, 23, 24]), (10, [5, 6]), (16, [5, 7])]), (6, [(6, [0, 1, 5, 6, 7, 8])]), (9, [(9, [0, 5, 6, 9, 10])]),
    (10,
      [(1099511627781, [0, 1, 2, 3]), (1099511627783, [0, 1, 2, 3, 5, 7]), (1099511627785, [0, 1, 2, 3, 5, 7, 9, 11]), (1099511627787, [0, 1, 2, 3, 5, 7, 9, 11, 13, 15]),
        (1099511627788, [0, 1, 2, 3, 5, 7, 9, 11, 13, 15, 16, 17])]),
    (15, [(3, [0, 4, 5]), (11, [4, 6, 7, 8]), (23, [4, 9, 12, 15, 17, 19, 20])]), (18, [(4, [0, 1, 5])]), (19, [(9, [7, 8])]),
    (20, [(9, [0, 4, 7, 9, 10]), (15, [0, 4, 7, 11, 12, 13]), (24, [11, 12, 16])]), (23, [(3, [0, 1, 5, 6])]), (27, [(4, [0, 3, 4, 17, 18, 19]), (16, [7, 8, 9, 10, 11, 12, 13, 46, 47, 48])]),
    (29, [(4, [0, 5]), (11, [6, 7, 8]), (16, [6, 7, 8, 9, 10, 11]), (23, [6, 7, 8, 12])]), (30, [(6, [0, 4, 5, 6]), (9, [0, 4, 5, 6, 7])]), (31, [(3, [0, 5, 6])]),
    (32, [(2, [0, 4]), (8, [0, 5, 6]), (10, [0, 5, 6, 7])]), (33, [(1, [0]), (5, [0, 3, 4])]), (37, [(5, [0, 9, 10])]), (38, [(5, [0, 1, 7, 8]), (7, [0, 1, 7, 8, 9])]), (41, [(5, [0, 1, 6, 7])]),
    (42, [(5, [0, 3, 4, 5, 6]), (1099511627785, [0, 0, 3, 4, 5, 6]), (1099511627787, [0, 0, 3, 4, 5, 6, 7, 8]), (1099511627791, [0, 0, 3, 4, 5, 6, 7, 8, 11])]), (43, [(2, [0, 7, 8, 9])]),
    (44, [(3, [1, 6, 11, 12, 13])]), (57, [(6, [0, 1, 2, 26, 27])]), (59, [(2, [0, 3])]), (61, [(4, [0, 3, 4, 5]), (12, [3, 4, 6]), (15, [3, 4, 6, 7, 8, 9]), (27, [3, 4, 6, 7, 8, 10, 11])]),
    (62, [(4, [0, 1, 4, 5, 7, 8])]), (63, [(7, [8, 31, 32, 33])]), (64, [(5, [0, 1, 6, 7])]), (69, [(3, [0, 4, 5, 6])]), (70, [(3, [0, 1, 2, 9, 10, 11])]),
    (71, [(7, [6]), (1099511627784, [0, 4, 5])]), (72, [(2, [0, 1, 7, 8])]), (73, [(4, [1, 2, 4, 5])]), (74, [(9, [0, 5, 44, 45])]), (75, [(4, [4]), (8, [4, 28, 29])]), (76, [(7, [4])]),
    (79, [(8, [7, 8])]), (80, [(7, [6, 7, 23, 24, 25])]), (81, [(2, [2, 6, 7, 8])]), (83, [(3, [1, 2, 3, 4])]), (84, [(9, [0, 6, 22, 23])]), (85, [(0, [0, 1])]), (87, [(3, [0, 1, 2, 7, 8])]),
    (90, [(1099511627782, [0, 0, 3, 6])]), (93, [(5, [3, 4, 5, 15, 16, 17]), (15, [3, 4, 5, 8])]), (94, [(5, [0, 3, 4])]), (98, [(6, [3, 5, 6, 7])]), (99, [(1, [0, 1, 3])]),
    (100, [(2, [0, 1, 7, 8])]), (101, [(3, [0, 1, 3, 7, 8, 9])]), (104, [(0, [0, 1]), (2, [0, 1, 3])])]
/-- The machine's table. -/
def T : Tab := ⟨keeps, slook [(25, caughtSpec)]⟩
end Go.Proofs.Ytflhogapjmdkaaa.X
end

section
set_option maxRecDepth 100000
set_option linter.unusedVariables false
namespace Go.Proofs.Ytflhogapjmdkaaa.X
open Go Go.Rlm
/-- hamper/bits.Open -/
noncomputable def f35 (k : Nat) (s0 : ByteArray) (L : LHeap) : R :=
  lcall Proofs.Try.prog Proofs.Ytflhogapjmdkaaa.X.T k 35 [Value.string s0] L
/-- (*hamper/bits.Reader).End -/
noncomputable def f37 (k : Nat) (p0 : Option Addr) (L : LHeap) : R :=
  lcall Proofs.Try.prog Proofs.Ytflhogapjmdkaaa.X.T k 37 [Value.pointer p0] L
/-- (*hamper/huff.Coder).Put -/
noncomputable def f54 (k : Nat) (p0 : Option Addr) (p1 : Option Addr) (n2 : Int) (L : LHeap) : R :=
  lcall Proofs.Try.prog Proofs.Ytflhogapjmdkaaa.X.T k 54 [Value.pointer p0, Value.pointer p1, Value.int IntKind.i64 n2] L
/-- (*hamper/bits.Writer).Put -/
noncomputable def f57 (k : Nat) (p0 : Option Addr) (n1 : Int) (n2 : Int) (L : LHeap) : R :=
  lcall Proofs.Try.prog Proofs.Ytflhogapjmdkaaa.X.T k 57 [Value.pointer p0, Value.int IntKind.u32 n1, Value.int IntKind.i64 n2] L
/-- (*hamper/bits.Writer).Bytes -/
noncomputable def f58 (k : Nat) (p0 : Option Addr) (L : LHeap) : R :=
  lcall Proofs.Try.prog Proofs.Ytflhogapjmdkaaa.X.T k 58 [Value.pointer p0] L
/-- hamper/huff.New -/
noncomputable def f63 (k : Nat) (l0 : Sl) (L : LHeap) : R :=
  lcall Proofs.Try.prog Proofs.Ytflhogapjmdkaaa.X.T k 63 [Value.slice l0.a l0.n l0.c] L
/-- (*hamper/huff.Coder).Take -/
noncomputable def f64 (k : Nat) (p0 : Option Addr) (p1 : Option Addr) (L : LHeap) : R :=
  lcall Proofs.Try.prog Proofs.Ytflhogapjmdkaaa.X.T k 64 [Value.pointer p0, Value.pointer p1] L
/-- (*hamper/bits.Reader).Left -/
noncomputable def f67 (k : Nat) (p0 : Option Addr) (L : LHeap) : R :=
  lcall Proofs.Try.prog Proofs.Ytflhogapjmdkaaa.X.T k 67 [Value.pointer p0] L
/-- (*hamper/bits.Reader).bit -/
noncomputable def f68 (k : Nat) (p0 : Option Addr) (n1 : Int) (L : LHeap) : R :=
  lcall Proofs.Try.prog Proofs.Ytflhogapjmdkaaa.X.T k 68 [Value.pointer p0, Value.int IntKind.i64 n1] L
/-- hamper/huff.Lengths -/
noncomputable def f75 (k : Nat) (l0 : Sl) (L : LHeap) : R :=
  lcall Proofs.Try.prog Proofs.Ytflhogapjmdkaaa.X.T k 75 [Value.slice l0.a l0.n l0.c] L
/-- hamper/huff.Codes -/
noncomputable def f80 (k : Nat) (l0 : Sl) (L : LHeap) : R :=
  lcall Proofs.Try.prog Proofs.Ytflhogapjmdkaaa.X.T k 80 [Value.slice l0.a l0.n l0.c] L
/-- hamper/huff.count -/
noncomputable def f81 (k : Nat) (l0 : Sl) (L : LHeap) : R :=
  lcall Proofs.Try.prog Proofs.Ytflhogapjmdkaaa.X.T k 81 [Value.slice l0.a l0.n l0.c] L
/-- slices.Clone[[]int,int] -/
noncomputable def f82 (k : Nat) (l0 : Sl) (L : LHeap) : R :=
  lcall Proofs.Try.prog Proofs.Ytflhogapjmdkaaa.X.T k 82 [Value.slice l0.a l0.n l0.c] L
/-- hamper/huff.firsts -/
noncomputable def f83 (k : Nat) (c0 : Array Value) (L : LHeap) : R :=
  lcall Proofs.Try.prog Proofs.Ytflhogapjmdkaaa.X.T k 83 [Value.agg c0] L
/-- (*hamper/bits.Reader).Take -/
noncomputable def f84 (k : Nat) (p0 : Option Addr) (n1 : Int) (L : LHeap) : R :=
  lcall Proofs.Try.prog Proofs.Ytflhogapjmdkaaa.X.T k 84 [Value.pointer p0, Value.int IntKind.i64 n1] L
/-- slices.ContainsFunc[[]int,int] -/
noncomputable def f91 (k : Nat) (l0 : Sl) (v1 : Value) (L : LHeap) : R :=
  lcall Proofs.Try.prog Proofs.Ytflhogapjmdkaaa.X.T k 91 [Value.slice l0.a l0.n l0.c, v1] L
/-- hamper/huff.Lengths$1 -/
noncomputable def f92 (k : Nat) (n0 : Int) (L : LHeap) : R :=
  lcall Proofs.Try.prog Proofs.Ytflhogapjmdkaaa.X.T k 92 [Value.int IntKind.i64 n0] L
/-- hamper/huff.once -/
noncomputable def f93 (k : Nat) (l0 : Sl) (L : LHeap) : R :=
  lcall Proofs.Try.prog Proofs.Ytflhogapjmdkaaa.X.T k 93 [Value.slice l0.a l0.n l0.c] L
/-- slices.Max[[]int,int] -/
noncomputable def f94 (k : Nat) (l0 : Sl) (L : LHeap) : R :=
  lcall Proofs.Try.prog Proofs.Ytflhogapjmdkaaa.X.T k 94 [Value.slice l0.a l0.n l0.c] L
/-- hamper/huff.May -/
noncomputable def f98 (k : Nat) (l0 : Sl) (L : LHeap) : R :=
  lcall Proofs.Try.prog Proofs.Ytflhogapjmdkaaa.X.T k 98 [Value.slice l0.a l0.n l0.c] L
/-- slices.IndexFunc[[]int,int] -/
noncomputable def f100 (k : Nat) (l0 : Sl) (v1 : Value) (L : LHeap) : R :=
  lcall Proofs.Try.prog Proofs.Ytflhogapjmdkaaa.X.T k 100 [Value.slice l0.a l0.n l0.c, v1] L
/-- hamper/huff.once$1 -/
noncomputable def f101 (k : Nat) (r0 : Nat) (r1 : Nat) (L : LHeap) : R :=
  lcall Proofs.Try.prog Proofs.Ytflhogapjmdkaaa.X.T k 101 [Value.pointer (some (Addr.mk r0 0 none)), Value.pointer (some (Addr.mk r1 0 none))] L
/-- slices.Delete[[]int,int] -/
noncomputable def f102 (k : Nat) (l0 : Sl) (n1 : Int) (n2 : Int) (L : LHeap) : R :=
  lcall Proofs.Try.prog Proofs.Ytflhogapjmdkaaa.X.T k 102 [Value.slice l0.a l0.n l0.c, Value.int IntKind.i64 n1, Value.int IntKind.i64 n2] L
/-- hamper/huff.once$2 -/
noncomputable def f103 (k : Nat) (n0 : Int) (n1 : Int) (r2 : Nat) (r3 : Nat) (r4 : Nat) (L : LHeap) : R :=
  lcall Proofs.Try.prog Proofs.Ytflhogapjmdkaaa.X.T k 103
  [Value.int IntKind.i64 n0, Value.int IntKind.i64 n1, Value.pointer (some (Addr.mk r2 0 none)), Value.pointer (some (Addr.mk r3 0 none)), Value.pointer (some (Addr.mk r4 0 none))] L
theorem f35_eq (k : Nat) (s0 : ByteArray) (L : LHeap) : Proofs.Ytflhogapjmdkaaa.X.f35 (k + 1) s0 L =
  some (LR.ret (Value.pointer (some (Addr.mk (List.length L) 0 none))) (L ++ [LBlk.cells [Value.string s0, Value.int IntKind.i64 0] 100 false 0])) := by kernel_rfl
/-- slots 0, 9, 10 -/
noncomputable def f37_l5 (k : Nat) (j5 : Nat) (p8 : Option Addr) (n9 : Int) (n10 : Int) (L : LHeap) : R :=
  loopAt Proofs.Try.prog Proofs.Ytflhogapjmdkaaa.X.T 37 k [1, 1, 1, 0, 1, 0] [] j5 [(0, Value.pointer p8), (9, Value.int IntKind.i64 n9), (10, Value.int IntKind.i64 n10)] L
theorem f37_eq (k : Nat) (p0 : Option Addr) (L : LHeap) : Proofs.Ytflhogapjmdkaaa.X.f37 (k + 1) p0 L =
  lbind (Proofs.Ytflhogapjmdkaaa.X.f67 k p0 L) fun v1 L2 =>
  obind (asI IntKind.i64 v1) fun n3 => lif (decide (n3 ≥ 8)) (some (LR.ret (Value.bool false) L2)) (Proofs.Ytflhogapjmdkaaa.X.f37_l5 k k p0 n3 0 L2) := by kernel_rfl
theorem f37_l5_eq (k : Nat) (j5 : Nat) (p0 : Option Addr) (n1 : Int) (n2 : Int) (L : LHeap) : Proofs.Ytflhogapjmdkaaa.X.f37_l5 k (j5 + 1) p0 n1 n2 L =
  lif (decide (n2 < n1))
  (obind p0 fun a3 =>
    obind (Option.bind (cell L (Addr.add a3 1)) (asI IntKind.i64)) fun n4 =>
      lbind (Proofs.Ytflhogapjmdkaaa.X.f68 k p0 (IntKind.wrap IntKind.i64 (n4 + n2)) L) fun v5 L6 =>
        obind (asI IntKind.u32 v5) fun n7 => lif (n7 != 0) (some (LR.ret (Value.bool false) L6)) (Proofs.Ytflhogapjmdkaaa.X.f37_l5 k j5 p0 n1 (IntKind.wrap IntKind.i64 (n2 + 1)) L6))
  (some (LR.ret (Value.bool true) L)) := by kernel_rfl
theorem f54_eq (k : Nat) (p0 : Option Addr) (p1 : Option Addr) (n2 : Int) (L : LHeap) : Proofs.Ytflhogapjmdkaaa.X.f54 (k + 1) p0 p1 n2 L =
  lif (Option.isNone p0) (some (LR.ret (Value.int IntKind.i64 2) L))
  (lif (Option.isNone p1) (some (LR.ret (Value.int IntKind.i64 2) L))
    (lif (decide (n2 < 0)) (some (LR.ret (Value.int IntKind.i64 1) L))
      (obind p0 fun a3 =>
        obind (Option.bind (cell L (Addr.add a3 0)) asSl) fun l4 =>
          lif (decide (n2 ≥ (↑l4.n : Int))) (some (LR.ret (Value.int IntKind.i64 1) L))
            (obind p0 fun a5 =>
              obind (Option.bind (cell L (Addr.add a5 0)) asSl) fun l6 =>
                obind (idx l6 n2 1) fun a7 =>
                  obind (Option.bind (cell L a7) (asI IntKind.i64)) fun n8 =>
                    lif (n8 == 0) (some (LR.ret (Value.int IntKind.i64 1) L))
                      (obind p0 fun a9 =>
                        obind (Option.bind (cell L (Addr.add a9 1)) asSl) fun l10 =>
                          obind (idx l10 n2 1) fun a11 =>
                            obind (Option.bind (cell L a11) (asI IntKind.u32)) fun n12 =>
                              obind p0 fun a13 =>
                                obind (Option.bind (cell L (Addr.add a13 0)) asSl) fun l14 =>
                                  obind (idx l14 n2 1) fun a15 =>
                                    obind (Option.bind (cell L a15) (asI IntKind.i64)) fun n16 =>
                                      lbindR (Proofs.Ytflhogapjmdkaaa.X.f57 k p1 n12 n16 L) fun v17 L18 => obind (asI IntKind.i64 v17) fun n19 => some (LR.ret (Value.int IntKind.i64 n19) L18)))))) := by kernel_rfl
/-- slots 0, 1, 2, 26, 27 -/
noncomputable def f57_l6 (k : Nat) (j6 : Nat) (p41 : Option Addr) (n42 : Int) (n43 : Int) (n44 : Int) (n45 : Int) (L : LHeap) : R :=
  loopAt Proofs.Try.prog Proofs.Ytflhogapjmdkaaa.X.T 57 k [1, 1, 0, 1, 0] [] j6
  [(0, Value.pointer p41), (1, Value.int IntKind.u32 n42), (2, Value.int IntKind.i64 n43), (26, Value.int IntKind.i64 n44), (27, Value.int IntKind.i64 n45)] L
theorem f57_eq (k : Nat) (p0 : Option Addr) (n1 : Int) (n2 : Int) (L : LHeap) : Proofs.Ytflhogapjmdkaaa.X.f57 (k + 1) p0 n1 n2 L =
  lif (Option.isNone p0) (some (LR.ret (Value.int IntKind.i64 2) L))
  (lif (decide (n2 < 0)) (some (LR.ret (Value.int IntKind.i64 1) L))
    (lif (decide (n2 > 32)) (some (LR.ret (Value.int IntKind.i64 1) L))
      (when (!decide (n2 < 0))
        (lif (Int.fdiv (IntKind.wrap IntKind.u64 n1) (2 ^ min (Int.toNat n2) 64) != 0) (some (LR.ret (Value.int IntKind.i64 1) L)) (Proofs.Ytflhogapjmdkaaa.X.f57_l6 k k p0 n1 n2 n2 0 L))))) := by kernel_rfl
theorem f57_l6_eq (k : Nat) (j6 : Nat) (p0 : Option Addr) (n1 : Int) (n2 : Int) (n3 : Int) (n4 : Int) (L : LHeap) : Proofs.Ytflhogapjmdkaaa.X.f57_l6 k (j6 + 1) p0 n1 n2 n3 n4 L =
  lif (decide (n4 < n3))
  (obind p0 fun a5 =>
    obind (Option.bind (cell L (Addr.add a5 1)) (asI IntKind.i64)) fun n6 =>
      lif (Int.tmod n6 8 == 0)
        (obind p0 fun a7 =>
          obind (Option.bind (cell L (Addr.add a7 0)) asSl) fun l8 =>
            obind (srcOf (L ++ [LBlk.cells [Value.int IntKind.u8 0] 5 false 0]) Proofs.Try.prog.types[5].size 1 (Value.slice (some (Addr.mk (List.length L) 0 none)) 1 1)) fun x9 =>
              obind (app (L ++ [LBlk.cells [Value.int IntKind.u8 0] 5 false 0]) 5 Proofs.Try.prog.types[5].size Proofs.Try.prog.types[5].bytes l8 1 x9) fun x10 =>
                obind p0 fun a11 =>
                  obind (stores x10.snd (Addr.add a11 0) [Value.slice x10.fst.a x10.fst.n x10.fst.c]) fun L12 =>
                    when (!decide (IntKind.wrap IntKind.i64 (IntKind.wrap IntKind.i64 (n2 - 1) - n4) < 0))
                      (obind p0 fun a13 =>
                        obind (Option.bind (cell L12 (Addr.add a13 0)) asSl) fun l14 =>
                          obind p0 fun a15 =>
                            obind (Option.bind (cell L12 (Addr.add a15 0)) asSl) fun l16 =>
                              obind (idx l14 (IntKind.wrap IntKind.i64 ((↑l16.n : Int) - 1)) 1) fun a17 =>
                                obind (Option.bind (cell L12 a17) (asI IntKind.u8)) fun n18 =>
                                  obind p0 fun a19 =>
                                    obind (Option.bind (cell L12 (Addr.add a19 1)) (asI IntKind.i64)) fun n20 =>
                                      when (!decide (IntKind.wrap IntKind.i64 (7 - Int.tmod n20 8) < 0))
                                        (obind (idx l14 (IntKind.wrap IntKind.i64 ((↑l16.n : Int) - 1)) 1) fun a21 =>
                                          obind
                                            (stores L12 a21
                                              [Value.int IntKind.u8
                                                  (bitop BinOp.or IntKind.u8 n18
                                                    (IntKind.wrap IntKind.u8
                                                      (IntKind.wrap IntKind.u8
                                                          (bitop BinOp.and IntKind.u32 (Int.fdiv n1 (2 ^ min (Int.toNat (IntKind.wrap IntKind.i64 (IntKind.wrap IntKind.i64 (n2 - 1) - n4))) 32)) 1) *
                                                        2 ^ min (Int.toNat (IntKind.wrap IntKind.i64 (7 - Int.tmod n20 8))) 8)))])
                                            fun L22 =>
                                            obind p0 fun a23 =>
                                              obind (Option.bind (cell L22 (Addr.add a23 1)) (asI IntKind.i64)) fun n24 =>
                                                obind p0 fun a25 =>
                                                  obind (stores L22 (Addr.add a25 1) [Value.int IntKind.i64 (IntKind.wrap IntKind.i64 (n24 + 1))]) fun L26 =>
                                                    Proofs.Ytflhogapjmdkaaa.X.f57_l6 k j6 p0 n1 n2 n3 (IntKind.wrap IntKind.i64 (n4 + 1)) L26)))
        (when (!decide (IntKind.wrap IntKind.i64 (IntKind.wrap IntKind.i64 (n2 - 1) - n4) < 0))
          (obind p0 fun a27 =>
            obind (Option.bind (cell L (Addr.add a27 0)) asSl) fun l28 =>
              obind p0 fun a29 =>
                obind (Option.bind (cell L (Addr.add a29 0)) asSl) fun l30 =>
                  obind (idx l28 (IntKind.wrap IntKind.i64 ((↑l30.n : Int) - 1)) 1) fun a31 =>
                    obind (Option.bind (cell L a31) (asI IntKind.u8)) fun n32 =>
                      obind p0 fun a33 =>
                        obind (Option.bind (cell L (Addr.add a33 1)) (asI IntKind.i64)) fun n34 =>
                          when (!decide (IntKind.wrap IntKind.i64 (7 - Int.tmod n34 8) < 0))
                            (obind (idx l28 (IntKind.wrap IntKind.i64 ((↑l30.n : Int) - 1)) 1) fun a35 =>
                              obind
                                (stores L a35
                                  [Value.int IntKind.u8
                                      (bitop BinOp.or IntKind.u8 n32
                                        (IntKind.wrap IntKind.u8
                                          (IntKind.wrap IntKind.u8
                                              (bitop BinOp.and IntKind.u32 (Int.fdiv n1 (2 ^ min (Int.toNat (IntKind.wrap IntKind.i64 (IntKind.wrap IntKind.i64 (n2 - 1) - n4))) 32)) 1) *
                                            2 ^ min (Int.toNat (IntKind.wrap IntKind.i64 (7 - Int.tmod n34 8))) 8)))])
                                fun L36 =>
                                obind p0 fun a37 =>
                                  obind (Option.bind (cell L36 (Addr.add a37 1)) (asI IntKind.i64)) fun n38 =>
                                    obind p0 fun a39 =>
                                      obind (stores L36 (Addr.add a39 1) [Value.int IntKind.i64 (IntKind.wrap IntKind.i64 (n38 + 1))]) fun L40 =>
                                        Proofs.Ytflhogapjmdkaaa.X.f57_l6 k j6 p0 n1 n2 n3 (IntKind.wrap IntKind.i64 (n4 + 1)) L40))))
  (some (LR.ret (Value.int IntKind.i64 0) L)) := by kernel_rfl
theorem f58_eq (k : Nat) (p0 : Option Addr) (L : LHeap) : Proofs.Ytflhogapjmdkaaa.X.f58 (k + 1) p0 L =
  lif (Option.isNone p0) (some (LR.ret (Value.string (ByteArray.mk #[])) L))
  (obind p0 fun a1 => obind (Option.bind (cell L (Addr.add a1 0)) asSl) fun l2 => obind (bytesOf L l2) fun s3 => some (LR.ret (Value.string s3) L)) := by kernel_rfl
/-- slots 8, 31, 32, 33 -/
noncomputable def f63_l7 (k : Nat) (j7 : Nat) (r11 : Nat) (l12 : Sl) (n13 : Int) (n14 : Int) (L : LHeap) : R :=
  loopAt Proofs.Try.prog Proofs.Ytflhogapjmdkaaa.X.T 63 k [1, 1, 1, 1, 1, 0, 1, 0] [] j7
  [(8, Value.pointer (some (Addr.mk r11 0 none))), (31, Value.slice l12.a l12.n l12.c), (32, Value.int IntKind.i64 n13), (33, Value.int IntKind.i64 n14)] L
theorem f63_eq (k : Nat) (l0 : Sl) (L : LHeap) : Proofs.Ytflhogapjmdkaaa.X.f63 (k + 1) l0 L =
  lbind (Proofs.Ytflhogapjmdkaaa.X.f80 k l0 L) fun v1 L2 =>
  obind (tupL v1) fun x3 =>
    uncons x3 fun v4 vs5 =>
      obind (asSl v4) fun l6 =>
        uncons vs5 fun v7 vs8 =>
          obind (asI IntKind.i64 v7) fun n9 =>
            nilL vs8
              (lif (n9 != 0) (some (LR.ret (Value.tuple #[Value.pointer none, Value.int IntKind.i64 n9]) L2))
                (lbind (Proofs.Ytflhogapjmdkaaa.X.f81 k l0 L2) fun v10 L11 =>
                  obind (tupL v10) fun x12 =>
                    uncons x12 fun v13 vs14 =>
                      obind (Rlm.asAgg v13) fun x15 =>
                        uncons vs14 fun v16 vs17 =>
                          obind (asB v16) fun b18 =>
                            nilL vs17
                              (when (Nat.beq (List.length x15.toList) 16)
                                (obind
                                  (stores
                                    (L11 ++
                                      [LBlk.cells
                                          [Value.int IntKind.i64 0, Value.int IntKind.i64 0, Value.int IntKind.i64 0, Value.int IntKind.i64 0, Value.int IntKind.i64 0, Value.int IntKind.i64 0,
                                            Value.int IntKind.i64 0, Value.int IntKind.i64 0, Value.int IntKind.i64 0, Value.int IntKind.i64 0, Value.int IntKind.i64 0, Value.int IntKind.i64 0,
                                            Value.int IntKind.i64 0, Value.int IntKind.i64 0, Value.int IntKind.i64 0, Value.int IntKind.i64 0]
                                          137 false 0])
                                    (Addr.mk (List.length L11) 0 none) x15.toList)
                                  fun L19 =>
                                  lbindR (Proofs.Ytflhogapjmdkaaa.X.f82 k l0 L19) fun v20 L21 =>
                                    obind (asSl v20) fun l22 =>
                                      obind (cellsAt L21 (Addr.mk (List.length L11) 0 none) 16) fun x23 =>
                                        obind (cellsAt L19 (Addr.mk (List.length L11) 0 none) 16) fun x24 =>
                                          when (same (Value.agg (List.toArray x23)) (Value.agg (List.toArray x24)))
                                            (lbindR (Proofs.Ytflhogapjmdkaaa.X.f83 k (List.toArray x23) L21) fun v25 L26 =>
                                              obind (Rlm.asAgg v25) fun x27 =>
                                                when
                                                  (Nat.beq (List.length x27.toList)
                                                    (Program.cellsOf Proofs.Try.prog
                                                      #[Field.mk "lengths" 49 0 false "" "hamper/huff" 0, Field.mk "codes" 52 1 false "" "hamper/huff" 24,
                                                            Field.mk "first" 125 2 false "" "hamper/huff" 48, Field.mk "symbols" 126 18 false "" "hamper/huff" 112][2].type))
                                                  (Proofs.Ytflhogapjmdkaaa.X.f63_l7 k k (List.length L26) l0 (↑l0.n : Int) 0
                                                    (L26 ++
                                                      [LBlk.cells
                                                          (setAll
                                                            [Value.slice l22.a l22.n l22.c, Value.slice l6.a l6.n l6.c, Value.int IntKind.u32 0, Value.int IntKind.u32 0, Value.int IntKind.u32 0,
                                                              Value.int IntKind.u32 0, Value.int IntKind.u32 0, Value.int IntKind.u32 0, Value.int IntKind.u32 0, Value.int IntKind.u32 0,
                                                              Value.int IntKind.u32 0, Value.int IntKind.u32 0, Value.int IntKind.u32 0, Value.int IntKind.u32 0, Value.int IntKind.u32 0,
                                                              Value.int IntKind.u32 0, Value.int IntKind.u32 0, Value.int IntKind.u32 0, Value.slice none 0 0, Value.slice none 0 0,
                                                              Value.slice none 0 0, Value.slice none 0 0, Value.slice none 0 0, Value.slice none 0 0, Value.slice none 0 0, Value.slice none 0 0,
                                                              Value.slice none 0 0, Value.slice none 0 0, Value.slice none 0 0, Value.slice none 0 0, Value.slice none 0 0, Value.slice none 0 0,
                                                              Value.slice none 0 0, Value.slice none 0 0]
                                                            2 x27.toList)
                                                          128 false 0]))))))) := by kernel_rfl
theorem f63_l7_eq (k : Nat) (j7 : Nat) (r0 : Nat) (l1 : Sl) (n2 : Int) (n3 : Int) (L : LHeap) : Proofs.Ytflhogapjmdkaaa.X.f63_l7 k (j7 + 1) r0 l1 n2 n3 L =
  lif (decide (n3 < n2))
  (obind (idx l1 n3 1) fun a4 =>
    obind (Option.bind (cell L a4) (asI IntKind.i64)) fun n5 =>
      when (decide (0 ≤ n5))
        (when (decide (n5 < 16))
          (obind (Option.bind (cell L (Addr.add (Addr.add (Addr.mk r0 0 none) 18) (Int.toNat n5 * 1))) asSl) fun l6 =>
            obind (Option.bind (cell (L ++ [LBlk.cells [Value.int IntKind.i64 n3] 3 false 0]) (Addr.add (Addr.add (Addr.mk r0 0 none) 18) (Int.toNat n5 * 1))) asSl) fun l7 =>
              when (same (Value.slice l6.a l6.n l6.c) (Value.slice l7.a l7.n l7.c))
                (obind (srcOf (L ++ [LBlk.cells [Value.int IntKind.i64 n3] 3 false 0]) Proofs.Try.prog.types[3].size 1 (Value.slice (some (Addr.mk (List.length L) 0 none)) 1 1)) fun x8 =>
                  obind (app (L ++ [LBlk.cells [Value.int IntKind.i64 n3] 3 false 0]) 3 Proofs.Try.prog.types[3].size Proofs.Try.prog.types[3].bytes l6 1 x8) fun x9 =>
                    when (decide (0 ≤ n5))
                      (when (decide (n5 < 16))
                        (obind (stores x9.snd (Addr.add (Addr.add (Addr.mk r0 0 none) 18) (Int.toNat n5 * 1)) [Value.slice x9.fst.a x9.fst.n x9.fst.c]) fun L10 =>
                          Proofs.Ytflhogapjmdkaaa.X.f63_l7 k j7 r0 l1 n2 (IntKind.wrap IntKind.i64 (n3 + 1)) L10))))))
  (some (LR.ret (Value.tuple #[Value.pointer (some (Addr.mk r0 0 none)), Value.int IntKind.i64 0]) L)) := by kernel_rfl
/-- slots 0, 1, 6, 7 -/
noncomputable def f64_l5 (k : Nat) (j5 : Nat) (p21 : Option Addr) (p22 : Option Addr) (n23 : Int) (n24 : Int) (L : LHeap) : R :=
  loopAt Proofs.Try.prog Proofs.Ytflhogapjmdkaaa.X.T 64 k [1, 1, 1, 0, 1, 0] [] j5 [(0, Value.pointer p21), (1, Value.pointer p22), (6, Value.int IntKind.u32 n23), (7, Value.int IntKind.i64 n24)] L
theorem f64_eq (k : Nat) (p0 : Option Addr) (p1 : Option Addr) (L : LHeap) : Proofs.Ytflhogapjmdkaaa.X.f64 (k + 1) p0 p1 L =
  lif (Option.isNone p0) (some (LR.ret (Value.tuple #[Value.int IntKind.i64 0, Value.int IntKind.i64 2]) L))
  (lif (Option.isNone p1) (some (LR.ret (Value.tuple #[Value.int IntKind.i64 0, Value.int IntKind.i64 2]) L)) (Proofs.Ytflhogapjmdkaaa.X.f64_l5 k k p0 p1 0 1 L)) := by kernel_rfl
theorem f64_l5_eq (k : Nat) (j5 : Nat) (p0 : Option Addr) (p1 : Option Addr) (n2 : Int) (n3 : Int) (L : LHeap) : Proofs.Ytflhogapjmdkaaa.X.f64_l5 k (j5 + 1) p0 p1 n2 n3 L =
  lif (decide (n3 < 16))
  (lbind (Proofs.Ytflhogapjmdkaaa.X.f84 k p1 1 L) fun v4 L5 =>
    obind (tupL v4) fun x6 =>
      uncons x6 fun v7 vs8 =>
        obind (asI IntKind.u32 v7) fun n9 =>
          uncons vs8 fun v10 vs11 =>
            obind (asI IntKind.i64 v10) fun n12 =>
              nilL vs11
                (lif (n12 != 0) (some (LR.ret (Value.tuple #[Value.int IntKind.i64 0, Value.int IntKind.i64 4]) L5))
                  (obind p0 fun a13 =>
                    when (decide (0 ≤ n3))
                      (when (decide (n3 < 16))
                        (obind (Option.bind (cell L5 (Addr.add (Addr.add a13 2) (Int.toNat n3 * 1))) (asI IntKind.u32)) fun n14 =>
                          lif (decide (IntKind.wrap IntKind.i64 (IntKind.wrap IntKind.i64 (bitop BinOp.or IntKind.u32 (IntKind.wrap IntKind.u32 (n2 * 2)) n9) - IntKind.wrap IntKind.i64 n14) ≥ 0))
                            (obind p0 fun a15 =>
                              when (decide (0 ≤ n3))
                                (when (decide (n3 < 16))
                                  (obind (Option.bind (cell L5 (Addr.add (Addr.add a15 18) (Int.toNat n3 * 1))) asSl) fun l16 =>
                                    lif
                                      (decide
                                        (IntKind.wrap IntKind.i64 (IntKind.wrap IntKind.i64 (bitop BinOp.or IntKind.u32 (IntKind.wrap IntKind.u32 (n2 * 2)) n9) - IntKind.wrap IntKind.i64 n14) <
                                          (↑l16.n : Int)))
                                      (obind p0 fun a17 =>
                                        when (decide (0 ≤ n3))
                                          (when (decide (n3 < 16))
                                            (obind (Option.bind (cell L5 (Addr.add (Addr.add a17 18) (Int.toNat n3 * 1))) asSl) fun l18 =>
                                              obind
                                                (idx l18
                                                  (IntKind.wrap IntKind.i64
                                                    (IntKind.wrap IntKind.i64 (bitop BinOp.or IntKind.u32 (IntKind.wrap IntKind.u32 (n2 * 2)) n9) - IntKind.wrap IntKind.i64 n14))
                                                  1)
                                                fun a19 =>
                                                obind (Option.bind (cell L5 a19) (asI IntKind.i64)) fun n20 => some (LR.ret (Value.tuple #[Value.int IntKind.i64 n20, Value.int IntKind.i64 0]) L5))))
                                      (Proofs.Ytflhogapjmdkaaa.X.f64_l5 k j5 p0 p1 (bitop BinOp.or IntKind.u32 (IntKind.wrap IntKind.u32 (n2 * 2)) n9) (IntKind.wrap IntKind.i64 (n3 + 1)) L5))))
                            (Proofs.Ytflhogapjmdkaaa.X.f64_l5 k j5 p0 p1 (bitop BinOp.or IntKind.u32 (IntKind.wrap IntKind.u32 (n2 * 2)) n9) (IntKind.wrap IntKind.i64 (n3 + 1)) L5))))))
  (some (LR.ret (Value.tuple #[Value.int IntKind.i64 0, Value.int IntKind.i64 4]) L)) := by kernel_rfl
theorem f67_eq (k : Nat) (p0 : Option Addr) (L : LHeap) : Proofs.Ytflhogapjmdkaaa.X.f67 (k + 1) p0 L =
  lif (Option.isNone p0) (some (LR.ret (Value.int IntKind.i64 0) L))
  (obind p0 fun a1 =>
    obind (Option.bind (cell L (Addr.add a1 0)) asS) fun s2 =>
      obind p0 fun a3 =>
        obind (Option.bind (cell L (Addr.add a3 1)) (asI IntKind.i64)) fun n4 =>
          some (LR.ret (Value.int IntKind.i64 (IntKind.wrap IntKind.i64 (IntKind.wrap IntKind.i64 (8 * (↑(ByteArray.size s2) : Int)) - n4))) L)) := by kernel_rfl
theorem f68_eq (k : Nat) (p0 : Option Addr) (n1 : Int) (L : LHeap) : Proofs.Ytflhogapjmdkaaa.X.f68 (k + 1) p0 n1 L =
  obind p0 fun a2 =>
  obind (Option.bind (cell L (Addr.add a2 0)) asS) fun s3 =>
    obind (byteAt s3 (IntKind.wrap IntKind.i64 (Int.tdiv n1 8))) fun n4 =>
      when (!decide (IntKind.wrap IntKind.i64 (7 - Int.tmod n1 8) < 0))
        (some (LR.ret (Value.int IntKind.u32 (bitop BinOp.and IntKind.u32 (IntKind.wrap IntKind.u32 (Int.fdiv n4 (2 ^ min (Int.toNat (IntKind.wrap IntKind.i64 (7 - Int.tmod n1 8))) 8))) 1)) L)) := by kernel_rfl
/-- slots 4 -/
noncomputable def f75_l4 (k : Nat) (j4 : Nat) (l8 : Sl) (L : LHeap) : R :=
  loopAt Proofs.Try.prog Proofs.Ytflhogapjmdkaaa.X.T 75 k [1, 1, 1, 0] [] j4 [(4, Value.slice l8.a l8.n l8.c)] L
/-- slots 4, 28, 29 -/
noncomputable def f75_l8 (k : Nat) (j4_9 : Nat) (j8 : Nat) (l10 : Sl) (n11 : Int) (n12 : Int) (L : LHeap) : R :=
  loopAt Proofs.Try.prog Proofs.Ytflhogapjmdkaaa.X.T 75 k [1, 1, 1, 0, 0, 0, 1, 1, 1, 0] [j4_9] j8 [(4, Value.slice l10.a l10.n l10.c), (28, Value.int IntKind.i64 n11), (29, Value.int IntKind.i64 n12)]
  L
theorem f75_eq (k : Nat) (l0 : Sl) (L : LHeap) : Proofs.Ytflhogapjmdkaaa.X.f75 (k + 1) l0 L =
  lif (decide ((↑l0.n : Int) > 512)) (some (LR.ret (Value.tuple #[Value.slice none 0 0, Value.int IntKind.i64 1]) L))
  (lbind (Proofs.Ytflhogapjmdkaaa.X.f91 k l0 (Value.func (Fn.func 92) #[] #[]) L) fun v1 L2 =>
    obind (asB v1) fun b3 =>
      lif b3 (some (LR.ret (Value.tuple #[Value.slice none 0 0, Value.int IntKind.i64 1]) L2))
        (lbind (Proofs.Ytflhogapjmdkaaa.X.f82 k l0 L2) fun v4 L5 => obind (asSl v4) fun l6 => Proofs.Ytflhogapjmdkaaa.X.f75_l4 k k l6 L5)) := by kernel_rfl
theorem f75_l4_eq (k : Nat) (j4 : Nat) (l0 : Sl) (L : LHeap) : Proofs.Ytflhogapjmdkaaa.X.f75_l4 k (j4 + 1) l0 L =
  lbind (Proofs.Ytflhogapjmdkaaa.X.f93 k l0 L) fun v1 L2 =>
  obind (asSl v1) fun l3 =>
    lif ((↑l3.n : Int) == 0) (some (LR.ret (Value.tuple #[Value.slice l3.a l3.n l3.c, Value.int IntKind.i64 0]) L2))
      (lbind (Proofs.Ytflhogapjmdkaaa.X.f94 k l3 L2) fun v4 L5 =>
        obind (asI IntKind.i64 v4) fun n6 =>
          lif (decide (n6 ≤ 15)) (some (LR.ret (Value.tuple #[Value.slice l3.a l3.n l3.c, Value.int IntKind.i64 0]) L5)) (Proofs.Ytflhogapjmdkaaa.X.f75_l8 k j4 k l0 (↑l0.n : Int) 0 L5)) := by kernel_rfl
theorem f75_l8_eq (k : Nat) (j4_0 : Nat) (j8 : Nat) (l1 : Sl) (n2 : Int) (n3 : Int) (L : LHeap) : Proofs.Ytflhogapjmdkaaa.X.f75_l8 k j4_0 (j8 + 1) l1 n2 n3 L =
  lif (decide (n3 < n2))
  (obind (idx l1 n3 1) fun a4 =>
    obind (Option.bind (cell L a4) (asI IntKind.i64)) fun n5 =>
      obind (idx l1 n3 1) fun a6 =>
        obind (stores L a6 [Value.int IntKind.i64 (IntKind.wrap IntKind.i64 (Int.tdiv (IntKind.wrap IntKind.i64 (n5 + 1)) 2))]) fun L7 =>
          Proofs.Ytflhogapjmdkaaa.X.f75_l8 k j4_0 j8 l1 n2 (IntKind.wrap IntKind.i64 (n3 + 1)) L7)
  (Proofs.Ytflhogapjmdkaaa.X.f75_l4 k j4_0 l1 L) := by kernel_rfl
/-- slots 6, 7, 23, 24, 25 -/
noncomputable def f80_l7 (k : Nat) (j7 : Nat) (r12 : Nat) (l13 : Sl) (l14 : Sl) (n15 : Int) (n16 : Int) (L : LHeap) : R :=
  loopAt Proofs.Try.prog Proofs.Ytflhogapjmdkaaa.X.T 80 k [1, 1, 1, 1, 1, 0, 1, 0] [] j7
  [(6, Value.pointer (some (Addr.mk r12 0 none))), (7, Value.slice l13.a l13.n l13.c), (23, Value.slice l14.a l14.n l14.c), (24, Value.int IntKind.i64 n15), (25, Value.int IntKind.i64 n16)] L
theorem f80_eq (k : Nat) (l0 : Sl) (L : LHeap) : Proofs.Ytflhogapjmdkaaa.X.f80 (k + 1) l0 L =
  lbind (Proofs.Ytflhogapjmdkaaa.X.f98 k l0 L) fun v1 L2 =>
  obind (asB v1) fun b3 =>
    lif (!b3) (some (LR.ret (Value.tuple #[Value.slice none 0 0, Value.int IntKind.i64 4]) L2))
      (lbind (Proofs.Ytflhogapjmdkaaa.X.f81 k l0 L2) fun v4 L5 =>
        obind (tupL v4) fun x6 =>
          uncons x6 fun v7 vs8 =>
            obind (Rlm.asAgg v7) fun x9 =>
              uncons vs8 fun v10 vs11 =>
                obind (asB v10) fun b12 =>
                  nilL vs11
                    (when (Nat.beq (List.length x9.toList) 16)
                      (obind
                        (stores
                          (L5 ++
                            [LBlk.cells
                                [Value.int IntKind.i64 0, Value.int IntKind.i64 0, Value.int IntKind.i64 0, Value.int IntKind.i64 0, Value.int IntKind.i64 0, Value.int IntKind.i64 0,
                                  Value.int IntKind.i64 0, Value.int IntKind.i64 0, Value.int IntKind.i64 0, Value.int IntKind.i64 0, Value.int IntKind.i64 0, Value.int IntKind.i64 0,
                                  Value.int IntKind.i64 0, Value.int IntKind.i64 0, Value.int IntKind.i64 0, Value.int IntKind.i64 0]
                                137 false 0])
                          (Addr.mk (List.length L5) 0 none) x9.toList)
                        fun L13 =>
                        obind (cellsAt L13 (Addr.mk (List.length L5) 0 none) 16) fun x14 =>
                          lbind (Proofs.Ytflhogapjmdkaaa.X.f83 k (List.toArray x14) L13) fun v15 L16 =>
                            obind (Rlm.asAgg v15) fun x17 =>
                              when (Nat.beq (List.length x17.toList) 16)
                                (obind
                                  (stores
                                    (L16 ++
                                      [LBlk.cells
                                          [Value.int IntKind.u32 0, Value.int IntKind.u32 0, Value.int IntKind.u32 0, Value.int IntKind.u32 0, Value.int IntKind.u32 0, Value.int IntKind.u32 0,
                                            Value.int IntKind.u32 0, Value.int IntKind.u32 0, Value.int IntKind.u32 0, Value.int IntKind.u32 0, Value.int IntKind.u32 0, Value.int IntKind.u32 0,
                                            Value.int IntKind.u32 0, Value.int IntKind.u32 0, Value.int IntKind.u32 0, Value.int IntKind.u32 0]
                                          125 false 0])
                                    (Addr.mk (List.length L16) 0 none) x17.toList)
                                  fun L18 =>
                                  when (room (↑l0.n : Int) (↑l0.n : Int) Proofs.Try.prog.types[56].bytes)
                                    (Proofs.Ytflhogapjmdkaaa.X.f80_l7 k k (List.length L16) (Sl.mk (some (Addr.mk (List.length L18) 0 none)) (Int.toNat (↑l0.n : Int)) (Int.toNat (↑l0.n : Int))) l0
                                      (↑l0.n : Int) 0 (L18 ++ [LBlk.cells (List.flatten (List.replicate (Int.toNat (↑l0.n : Int)) [Value.int IntKind.u32 0])) 56 false 0])))))) := by kernel_rfl
theorem f80_l7_eq (k : Nat) (j7 : Nat) (r0 : Nat) (l1 : Sl) (l2 : Sl) (n3 : Int) (n4 : Int) (L : LHeap) : Proofs.Ytflhogapjmdkaaa.X.f80_l7 k (j7 + 1) r0 l1 l2 n3 n4 L =
  lif (decide (n4 < n3))
  (obind (idx l2 n4 1) fun a5 =>
    obind (Option.bind (cell L a5) (asI IntKind.i64)) fun n6 =>
      lif (decide (n6 > 0))
        (when (decide (0 ≤ n6))
          (when (decide (n6 < 16))
            (obind (Option.bind (cell L (Addr.add (Addr.mk r0 0 none) (Int.toNat n6 * 1))) (asI IntKind.u32)) fun n7 =>
              obind (idx l1 n4 1) fun a8 =>
                obind (stores L a8 [Value.int IntKind.u32 n7]) fun L9 =>
                  when (decide (0 ≤ n6))
                    (when (decide (n6 < 16))
                      (obind (Option.bind (cell L9 (Addr.add (Addr.mk r0 0 none) (Int.toNat n6 * 1))) (asI IntKind.u32)) fun n10 =>
                        when (decide (0 ≤ n6))
                          (when (decide (n6 < 16))
                            (obind (stores L9 (Addr.add (Addr.mk r0 0 none) (Int.toNat n6 * 1)) [Value.int IntKind.u32 (IntKind.wrap IntKind.u32 (n10 + 1))]) fun L11 =>
                              Proofs.Ytflhogapjmdkaaa.X.f80_l7 k j7 r0 l1 l2 n3 (IntKind.wrap IntKind.i64 (n4 + 1)) L11)))))))
        (Proofs.Ytflhogapjmdkaaa.X.f80_l7 k j7 r0 l1 l2 n3 (IntKind.wrap IntKind.i64 (n4 + 1)) L))
  (some (LR.ret (Value.tuple #[Value.slice l1.a l1.n l1.c, Value.int IntKind.i64 0]) L)) := by kernel_rfl
/-- slots 2, 6, 7, 8 -/
noncomputable def f81_l2 (k : Nat) (j2 : Nat) (r17 : Nat) (l18 : Sl) (n19 : Int) (n20 : Int) (L : LHeap) : R :=
  loopAt Proofs.Try.prog Proofs.Ytflhogapjmdkaaa.X.T 81 k [1, 0, 1, 0] [] j2
  [(2, Value.pointer (some (Addr.mk r17 0 none))), (6, Value.slice l18.a l18.n l18.c), (7, Value.int IntKind.i64 n19), (8, Value.int IntKind.i64 n20)] L
theorem f81_eq (k : Nat) (l0 : Sl) (L : LHeap) : Proofs.Ytflhogapjmdkaaa.X.f81 (k + 1) l0 L =
  Proofs.Ytflhogapjmdkaaa.X.f81_l2 k k (List.length L) l0 (↑l0.n : Int) 0
  (L ++
    [LBlk.cells
        [Value.int IntKind.i64 0, Value.int IntKind.i64 0, Value.int IntKind.i64 0, Value.int IntKind.i64 0, Value.int IntKind.i64 0, Value.int IntKind.i64 0, Value.int IntKind.i64 0,
          Value.int IntKind.i64 0, Value.int IntKind.i64 0, Value.int IntKind.i64 0, Value.int IntKind.i64 0, Value.int IntKind.i64 0, Value.int IntKind.i64 0, Value.int IntKind.i64 0,
          Value.int IntKind.i64 0, Value.int IntKind.i64 0]
        137 false 0]) := by kernel_rfl
theorem f81_l2_eq (k : Nat) (j2 : Nat) (r0 : Nat) (l1 : Sl) (n2 : Int) (n3 : Int) (L : LHeap) : Proofs.Ytflhogapjmdkaaa.X.f81_l2 k (j2 + 1) r0 l1 n2 n3 L =
  lif (decide (n3 < n2))
  (obind (idx l1 n3 1) fun a4 =>
    obind (Option.bind (cell L a4) (asI IntKind.i64)) fun n5 =>
      lif (decide (n5 < 0))
        (obind (cellsAt L (Addr.mk r0 0 none) 16) fun x6 =>
          when (Nat.beq (List.length x6) 16)
            (obind (stores L (Addr.mk r0 0 none) x6) fun L7 => obind (cellsAt L7 (Addr.mk r0 0 none) 16) fun x8 => some (LR.ret (Value.tuple #[Value.agg (List.toArray x8), Value.bool false]) L7)))
        (lif (decide (n5 > 15))
          (obind (cellsAt L (Addr.mk r0 0 none) 16) fun x9 =>
            when (Nat.beq (List.length x9) 16)
              (obind (stores L (Addr.mk r0 0 none) x9) fun L10 =>
                obind (cellsAt L10 (Addr.mk r0 0 none) 16) fun x11 => some (LR.ret (Value.tuple #[Value.agg (List.toArray x11), Value.bool false]) L10)))
          (when (decide (0 ≤ n5))
            (when (decide (n5 < 16))
              (obind (Option.bind (cell L (Addr.add (Addr.mk r0 0 none) (Int.toNat n5 * 1))) (asI IntKind.i64)) fun n12 =>
                when (decide (0 ≤ n5))
                  (when (decide (n5 < 16))
                    (obind (stores L (Addr.add (Addr.mk r0 0 none) (Int.toNat n5 * 1)) [Value.int IntKind.i64 (IntKind.wrap IntKind.i64 (n12 + 1))]) fun L13 =>
                      Proofs.Ytflhogapjmdkaaa.X.f81_l2 k j2 r0 l1 n2 (IntKind.wrap IntKind.i64 (n3 + 1)) L13)))))))
  (obind (cellsAt L (Addr.mk r0 0 none) 16) fun x14 =>
    when (Nat.beq (List.length x14) 16)
      (obind (stores L (Addr.mk r0 0 none) x14) fun L15 => obind (cellsAt L15 (Addr.mk r0 0 none) 16) fun x16 => some (LR.ret (Value.tuple #[Value.agg (List.toArray x16), Value.bool true]) L15))) := by kernel_rfl
theorem f82_eq (k : Nat) (l0 : Sl) (L : LHeap) : Proofs.Ytflhogapjmdkaaa.X.f82 (k + 1) l0 L =
  lif (Option.isNone l0.a) (some (LR.ret (Value.slice none 0 0) L))
  (obind (srcOf (L ++ [LBlk.cells [] 3 false 0]) Proofs.Try.prog.types[3].size l0.n (Value.slice l0.a l0.n l0.c)) fun x1 =>
    obind (app (L ++ [LBlk.cells [] 3 false 0]) 3 Proofs.Try.prog.types[3].size Proofs.Try.prog.types[3].bytes (Sl.mk (some (Addr.mk (List.length L) 0 none)) 0 0) l0.n x1) fun x2 =>
      some (LR.ret (Value.slice x2.fst.a x2.fst.n x2.fst.c) x2.snd)) := by kernel_rfl
/-- slots 1, 2, 3, 4 -/
noncomputable def f83_l3 (k : Nat) (j3 : Nat) (r9 : Nat) (r10 : Nat) (n11 : Int) (n12 : Int) (L : LHeap) : R :=
  loopAt Proofs.Try.prog Proofs.Ytflhogapjmdkaaa.X.T 83 k [1, 1, 0, 1, 0] [] j3
  [(1, Value.pointer (some (Addr.mk r9 0 none))), (2, Value.pointer (some (Addr.mk r10 0 none))), (3, Value.int IntKind.u32 n11), (4, Value.int IntKind.i64 n12)] L
theorem f83_eq (k : Nat) (c0 : Array Value) (L : LHeap) : Proofs.Ytflhogapjmdkaaa.X.f83 (k + 1) c0 L =
  Proofs.Ytflhogapjmdkaaa.X.f83_l3 k k (List.length L) (List.length (L ++ [LBlk.cells c0.toList 137 false 0])) 0 1
  (L ++ [LBlk.cells c0.toList 137 false 0] ++
    [LBlk.cells
        [Value.int IntKind.u32 0, Value.int IntKind.u32 0, Value.int IntKind.u32 0, Value.int IntKind.u32 0, Value.int IntKind.u32 0, Value.int IntKind.u32 0, Value.int IntKind.u32 0,
          Value.int IntKind.u32 0, Value.int IntKind.u32 0, Value.int IntKind.u32 0, Value.int IntKind.u32 0, Value.int IntKind.u32 0, Value.int IntKind.u32 0, Value.int IntKind.u32 0,
          Value.int IntKind.u32 0, Value.int IntKind.u32 0]
        125 false 0]) := by kernel_rfl
theorem f83_l3_eq (k : Nat) (j3 : Nat) (r0 : Nat) (r1 : Nat) (n2 : Int) (n3 : Int) (L : LHeap) : Proofs.Ytflhogapjmdkaaa.X.f83_l3 k (j3 + 1) r0 r1 n2 n3 L =
  lif (decide (n3 < 16))
  (when (decide (0 ≤ n3))
    (when (decide (n3 < 16))
      (obind (stores L (Addr.add (Addr.mk r1 0 none) (Int.toNat n3 * 1)) [Value.int IntKind.u32 n2]) fun L4 =>
        when (decide (0 ≤ n3))
          (when (decide (n3 < 16))
            (obind (Option.bind (cell L4 (Addr.add (Addr.mk r0 0 none) (Int.toNat n3 * 1))) (asI IntKind.i64)) fun n5 =>
              Proofs.Ytflhogapjmdkaaa.X.f83_l3 k j3 r0 r1 (IntKind.wrap IntKind.u32 (IntKind.wrap IntKind.u32 (n2 + IntKind.wrap IntKind.u32 n5) * 2)) (IntKind.wrap IntKind.i64 (n3 + 1)) L4)))))
  (obind (cellsAt L (Addr.mk r1 0 none) 16) fun x6 =>
    when (Nat.beq (List.length x6) 16) (obind (stores L (Addr.mk r1 0 none) x6) fun L7 => obind (cellsAt L7 (Addr.mk r1 0 none) 16) fun x8 => some (LR.ret (Value.agg (List.toArray x8)) L7))) := by kernel_rfl
/-- slots 0, 6, 22, 23 -/
noncomputable def f84_l9 (k : Nat) (j9 : Nat) (p13 : Option Addr) (n14 : Int) (n15 : Int) (n16 : Int) (L : LHeap) : R :=
  loopAt Proofs.Try.prog Proofs.Ytflhogapjmdkaaa.X.T 84 k [1, 1, 1, 0, 1, 0] [] j9
  [(0, Value.pointer p13), (6, Value.int IntKind.u32 n14), (22, Value.int IntKind.i64 n15), (23, Value.int IntKind.i64 n16)] L
theorem f84_eq (k : Nat) (p0 : Option Addr) (n1 : Int) (L : LHeap) : Proofs.Ytflhogapjmdkaaa.X.f84 (k + 1) p0 n1 L =
  lif (Option.isNone p0) (some (LR.ret (Value.tuple #[Value.int IntKind.u32 0, Value.int IntKind.i64 2]) L))
  (lif (decide (n1 < 0)) (some (LR.ret (Value.tuple #[Value.int IntKind.u32 0, Value.int IntKind.i64 1]) L))
    (lif (decide (n1 > 32)) (some (LR.ret (Value.tuple #[Value.int IntKind.u32 0, Value.int IntKind.i64 1]) L))
      (lbind (Proofs.Ytflhogapjmdkaaa.X.f67 k p0 L) fun v2 L3 =>
        obind (asI IntKind.i64 v2) fun n4 =>
          lif (decide (n1 > n4)) (some (LR.ret (Value.tuple #[Value.int IntKind.u32 0, Value.int IntKind.i64 4]) L3)) (Proofs.Ytflhogapjmdkaaa.X.f84_l9 k k p0 0 n1 0 L3)))) := by kernel_rfl
theorem f84_l9_eq (k : Nat) (j9 : Nat) (p0 : Option Addr) (n1 : Int) (n2 : Int) (n3 : Int) (L : LHeap) : Proofs.Ytflhogapjmdkaaa.X.f84_l9 k (j9 + 1) p0 n1 n2 n3 L =
  lif (decide (n3 < n2))
  (obind p0 fun a4 =>
    obind (Option.bind (cell L (Addr.add a4 1)) (asI IntKind.i64)) fun n5 =>
      lbind (Proofs.Ytflhogapjmdkaaa.X.f68 k p0 n5 L) fun v6 L7 =>
        obind (asI IntKind.u32 v6) fun n8 =>
          obind p0 fun a9 =>
            obind (Option.bind (cell L7 (Addr.add a9 1)) (asI IntKind.i64)) fun n10 =>
              obind p0 fun a11 =>
                obind (stores L7 (Addr.add a11 1) [Value.int IntKind.i64 (IntKind.wrap IntKind.i64 (n10 + 1))]) fun L12 =>
                  Proofs.Ytflhogapjmdkaaa.X.f84_l9 k j9 p0 (bitop BinOp.or IntKind.u32 (IntKind.wrap IntKind.u32 (n1 * 2)) n8) n2 (IntKind.wrap IntKind.i64 (n3 + 1)) L12)
  (some (LR.ret (Value.tuple #[Value.int IntKind.u32 n1, Value.int IntKind.i64 0]) L)) := by kernel_rfl
theorem f91_eq (k : Nat) (l0 : Sl) (v1 : Value) (L : LHeap) : Proofs.Ytflhogapjmdkaaa.X.f91 (k + 1) l0 v1 L =
  lbind (Proofs.Ytflhogapjmdkaaa.X.f100 k l0 v1 L) fun v2 L3 => obind (asI IntKind.i64 v2) fun n4 => some (LR.ret (Value.bool (decide (n4 ≥ 0))) L3) := by kernel_rfl
theorem f92_eq (k : Nat) (n0 : Int) (L : LHeap) : Proofs.Ytflhogapjmdkaaa.X.f92 (k + 1) n0 L =
  lif (decide (n0 < 0)) (some (LR.ret (Value.bool true) L)) (some (LR.ret (Value.bool (decide (n0 > 1073741824))) L)) := by kernel_rfl
/-- slots 3, 4, 5, 15, 16, 17 -/
noncomputable def f93_l5 (k : Nat) (j5 : Nat) (r36 : Nat) (r37 : Nat) (r38 : Nat) (l39 : Sl) (n40 : Int) (n41 : Int) (L : LHeap) : R :=
  loopAt Proofs.Try.prog Proofs.Ytflhogapjmdkaaa.X.T 93 k [1, 1, 1, 1, 0, 1, 0] [] j5
  [(3, Value.pointer (some (Addr.mk r36 0 none))), (4, Value.pointer (some (Addr.mk r37 0 none))), (5, Value.pointer (some (Addr.mk r38 0 none))), (15, Value.slice l39.a l39.n l39.c),
    (16, Value.int IntKind.i64 n40), (17, Value.int IntKind.i64 n41)]
  L
/-- slots 3, 4, 5, 8 -/
noncomputable def f93_l15 (k : Nat) (j15 : Nat) (r42 : Nat) (r43 : Nat) (r44 : Nat) (r45 : Nat) (r46 : Nat) (L : LHeap) : R :=
  loopAt Proofs.Try.prog Proofs.Ytflhogapjmdkaaa.X.T 93 k [1, 1, 1, 1, 1, 1, 1, 0, 0] [] j15
  [(3, Value.pointer (some (Addr.mk r42 0 none))), (4, Value.pointer (some (Addr.mk r43 0 none))), (5, Value.pointer (some (Addr.mk r44 0 none))),
    (8, Value.func (Fn.func 101) #[] #[Value.pointer (some (Addr.mk r45 0 none)), Value.pointer (some (Addr.mk r46 0 none))])]
  L
theorem f93_eq (k : Nat) (l0 : Sl) (L : LHeap) : Proofs.Ytflhogapjmdkaaa.X.f93 (k + 1) l0 L =
  when (room (↑l0.n : Int) (↑l0.n : Int) Proofs.Try.prog.types[3].bytes)
  (obind
    (stores (L ++ [LBlk.cells (List.flatten (List.replicate (Int.toNat (↑l0.n : Int)) [Value.int IntKind.i64 0])) 3 false 0] ++ [LBlk.cells [Value.slice none 0 0] 49 false 0])
      (Addr.mk (List.length (L ++ [LBlk.cells (List.flatten (List.replicate (Int.toNat (↑l0.n : Int)) [Value.int IntKind.i64 0])) 3 false 0])) 0 none)
      [Value.slice (some (Addr.mk (List.length L) 0 none)) (Int.toNat (↑l0.n : Int)) (Int.toNat (↑l0.n : Int))])
    fun L1 =>
    Proofs.Ytflhogapjmdkaaa.X.f93_l5 k k (List.length (L ++ [LBlk.cells (List.flatten (List.replicate (Int.toNat (↑l0.n : Int)) [Value.int IntKind.i64 0])) 3 false 0])) (List.length L1)
      (List.length (L1 ++ [LBlk.cells [Value.slice none 0 0] 155 false 0])) l0 (↑l0.n : Int) 0
      (L1 ++ [LBlk.cells [Value.slice none 0 0] 155 false 0] ++ [LBlk.cells [Value.slice none 0 0] 49 false 0])) := by kernel_rfl
theorem f93_l5_eq (k : Nat) (j5 : Nat) (r0 : Nat) (r1 : Nat) (r2 : Nat) (l3 : Sl) (n4 : Int) (n5 : Int) (L : LHeap) : Proofs.Ytflhogapjmdkaaa.X.f93_l5 k (j5 + 1) r0 r1 r2 l3 n4 n5 L =
  lif (decide (n5 < n4))
  (obind (idx l3 n5 1) fun a6 =>
    obind (Option.bind (cell L a6) (asI IntKind.i64)) fun n7 =>
      lif (decide (n7 > 0))
        (obind (Option.bind (cell L (Addr.mk r2 0 none)) asSl) fun l8 =>
          obind (Option.bind (cell L (Addr.mk r1 0 none)) asSl) fun l9 =>
            obind (srcOf (L ++ [LBlk.cells [Value.int IntKind.i64 (↑l9.n : Int)] 3 false 0]) Proofs.Try.prog.types[3].size 1 (Value.slice (some (Addr.mk (List.length L) 0 none)) 1 1)) fun x10 =>
              obind (app (L ++ [LBlk.cells [Value.int IntKind.i64 (↑l9.n : Int)] 3 false 0]) 3 Proofs.Try.prog.types[3].size Proofs.Try.prog.types[3].bytes l8 1 x10) fun x11 =>
                obind (stores x11.snd (Addr.mk r2 0 none) [Value.slice x11.fst.a x11.fst.n x11.fst.c]) fun L12 =>
                  obind (Option.bind (cell L12 (Addr.mk r1 0 none)) asSl) fun l13 =>
                    obind
                      (srcOf (L12 ++ [LBlk.cells [Value.int IntKind.i64 n7, Value.int IntKind.i64 (-1), Value.int IntKind.i64 n5] 157 false 0]) Proofs.Try.prog.types[157].size 1
                        (Value.slice (some (Addr.mk (List.length L12) 0 none)) 1 1))
                      fun x14 =>
                      obind
                        (app (L12 ++ [LBlk.cells [Value.int IntKind.i64 n7, Value.int IntKind.i64 (-1), Value.int IntKind.i64 n5] 157 false 0]) 157 Proofs.Try.prog.types[157].size
                          Proofs.Try.prog.types[157].bytes l13 1 x14)
                        fun x15 =>
                        obind (stores x15.snd (Addr.mk r1 0 none) [Value.slice x15.fst.a x15.fst.n x15.fst.c]) fun L16 =>
                          Proofs.Ytflhogapjmdkaaa.X.f93_l5 k j5 r0 r1 r2 l3 n4 (IntKind.wrap IntKind.i64 (n5 + 1)) L16)
        (Proofs.Ytflhogapjmdkaaa.X.f93_l5 k j5 r0 r1 r2 l3 n4 (IntKind.wrap IntKind.i64 (n5 + 1)) L))
  (obind (Option.bind (cell L (Addr.mk r2 0 none)) asSl) fun l17 =>
    lif ((↑l17.n : Int) == 1)
      (obind (Option.bind (cell L (Addr.mk r0 0 none)) asSl) fun l18 =>
        obind (Option.bind (cell L (Addr.mk r1 0 none)) asSl) fun l19 =>
          obind (idx l19 0 3) fun a20 =>
            obind (Option.bind (cell L (Addr.add a20 2)) (asI IntKind.i64)) fun n21 =>
              obind (idx l18 n21 1) fun a22 =>
                obind (stores L a22 [Value.int IntKind.i64 1]) fun L23 => obind (Option.bind (cell L23 (Addr.mk r0 0 none)) asSl) fun l24 => some (LR.ret (Value.slice l24.a l24.n l24.c) L23))
      (Proofs.Ytflhogapjmdkaaa.X.f93_l15 k k r0 r1 r2 r2 r1 L)) := by kernel_rfl
theorem f93_l15_eq (k : Nat) (j15 : Nat) (r0 : Nat) (r1 : Nat) (r2 : Nat) (r3 : Nat) (r4 : Nat) (L : LHeap) : Proofs.Ytflhogapjmdkaaa.X.f93_l15 k (j15 + 1) r0 r1 r2 r3 r4 L =
  obind (Option.bind (cell L (Addr.mk r2 0 none)) asSl) fun l5 =>
  lif (decide ((↑l5.n : Int) > 1))
    (lbind (Proofs.Ytflhogapjmdkaaa.X.f101 k r3 r4 L) fun v6 L7 =>
      obind (asI IntKind.i64 v6) fun n8 =>
        lbind (Proofs.Ytflhogapjmdkaaa.X.f101 k r3 r4 L7) fun v9 L10 =>
          obind (asI IntKind.i64 v9) fun n11 =>
            obind (Option.bind (cell L10 (Addr.mk r2 0 none)) asSl) fun l12 =>
              obind (Option.bind (cell L10 (Addr.mk r1 0 none)) asSl) fun l13 =>
                obind (srcOf (L10 ++ [LBlk.cells [Value.int IntKind.i64 (↑l13.n : Int)] 3 false 0]) Proofs.Try.prog.types[3].size 1 (Value.slice (some (Addr.mk (List.length L10) 0 none)) 1 1))
                  fun x14 =>
                  obind (app (L10 ++ [LBlk.cells [Value.int IntKind.i64 (↑l13.n : Int)] 3 false 0]) 3 Proofs.Try.prog.types[3].size Proofs.Try.prog.types[3].bytes l12 1 x14) fun x15 =>
                    obind (stores x15.snd (Addr.mk r2 0 none) [Value.slice x15.fst.a x15.fst.n x15.fst.c]) fun L16 =>
                      obind (Option.bind (cell L16 (Addr.mk r1 0 none)) asSl) fun l17 =>
                        obind (Option.bind (cell L16 (Addr.mk r1 0 none)) asSl) fun l18 =>
                          obind (idx l18 n8 3) fun a19 =>
                            obind (Option.bind (cell L16 (Addr.add a19 0)) (asI IntKind.i64)) fun n20 =>
                              obind (Option.bind (cell L16 (Addr.mk r1 0 none)) asSl) fun l21 =>
                                obind (idx l21 n11 3) fun a22 =>
                                  obind (Option.bind (cell L16 (Addr.add a22 0)) (asI IntKind.i64)) fun n23 =>
                                    obind
                                      (Option.bind
                                        (cell (L16 ++ [LBlk.cells [Value.int IntKind.i64 (IntKind.wrap IntKind.i64 (n20 + n23)), Value.int IntKind.i64 n8, Value.int IntKind.i64 n11] 157 false 0])
                                          (Addr.mk r1 0 none))
                                        asSl)
                                      fun l24 =>
                                      when (same (Value.slice l17.a l17.n l17.c) (Value.slice l24.a l24.n l24.c))
                                        (obind
                                          (srcOf (L16 ++ [LBlk.cells [Value.int IntKind.i64 (IntKind.wrap IntKind.i64 (n20 + n23)), Value.int IntKind.i64 n8, Value.int IntKind.i64 n11] 157 false 0])
                                            Proofs.Try.prog.types[157].size 1 (Value.slice (some (Addr.mk (List.length L16) 0 none)) 1 1))
                                          fun x25 =>
                                          obind
                                            (app (L16 ++ [LBlk.cells [Value.int IntKind.i64 (IntKind.wrap IntKind.i64 (n20 + n23)), Value.int IntKind.i64 n8, Value.int IntKind.i64 n11] 157 false 0])
                                              157 Proofs.Try.prog.types[157].size Proofs.Try.prog.types[157].bytes l17 1 x25)
                                            fun x26 =>
                                            obind (stores x26.snd (Addr.mk r1 0 none) [Value.slice x26.fst.a x26.fst.n x26.fst.c]) fun L27 =>
                                              Proofs.Ytflhogapjmdkaaa.X.f93_l15 k j15 r0 r1 r2 r3 r4 L27))
    (obind
      (stores (L ++ [LBlk.cells [Value.nilFunc] 159 false 0]) (Addr.mk (List.length L) 0 none)
        [Value.func (Fn.func 103) #[] #[Value.pointer (some (Addr.mk r1 0 none)), Value.pointer (some (Addr.mk r0 0 none)), Value.pointer (some (Addr.mk (List.length L) 0 none))]])
      fun L28 =>
      obind (Option.bind (cell L28 (Addr.mk r1 0 none)) asSl) fun l29 =>
        lif (decide ((↑l29.n : Int) > 0))
          (obind (cell L28 (Addr.mk (List.length L) 0 none)) fun v30 =>
            obind (Option.bind (cell L28 (Addr.mk r1 0 none)) asSl) fun l31 =>
              lbind (lapp (lcall Proofs.Try.prog Proofs.Ytflhogapjmdkaaa.X.T k) v30 [Value.int IntKind.i64 (IntKind.wrap IntKind.i64 ((↑l31.n : Int) - 1)), Value.int IntKind.i64 0] L28) fun v32 L33 =>
                obind (Option.bind (cell L33 (Addr.mk r0 0 none)) asSl) fun l34 => some (LR.ret (Value.slice l34.a l34.n l34.c) L33))
          (obind (Option.bind (cell L28 (Addr.mk r0 0 none)) asSl) fun l35 => some (LR.ret (Value.slice l35.a l35.n l35.c) L28))) := by kernel_rfl
/-- slots 0, 3, 4 -/
noncomputable def f94_l5 (k : Nat) (j5 : Nat) (l5 : Sl) (n6 : Int) (n7 : Int) (L : LHeap) : R :=
  loopAt Proofs.Try.prog Proofs.Ytflhogapjmdkaaa.X.T 94 k [1, 1, 1, 0, 1, 0] [] j5 [(0, Value.slice l5.a l5.n l5.c), (3, Value.int IntKind.i64 n6), (4, Value.int IntKind.i64 n7)] L
theorem f94_eq (k : Nat) (l0 : Sl) (L : LHeap) : Proofs.Ytflhogapjmdkaaa.X.f94 (k + 1) l0 L =
  lif (decide ((↑l0.n : Int) < 1))
  (some (LR.pan (Value.iface 9 (Value.string (ByteArray.mk #[115, 108, 105, 99, 101, 115, 46, 77, 97, 120, 58, 32, 101, 109, 112, 116, 121, 32, 108, 105, 115, 116]))) L))
  (obind (idx l0 0 1) fun a1 => obind (Option.bind (cell L a1) (asI IntKind.i64)) fun n2 => Proofs.Ytflhogapjmdkaaa.X.f94_l5 k k l0 n2 1 L) := by kernel_rfl
theorem f94_l5_eq (k : Nat) (j5 : Nat) (l0 : Sl) (n1 : Int) (n2 : Int) (L : LHeap) : Proofs.Ytflhogapjmdkaaa.X.f94_l5 k (j5 + 1) l0 n1 n2 L =
  lif (decide (n2 < (↑l0.n : Int)))
  (obind (idx l0 n2 1) fun a3 =>
    obind (Option.bind (cell L a3) (asI IntKind.i64)) fun n4 =>
      Proofs.Ytflhogapjmdkaaa.X.f94_l5 k j5 l0 (if true = true then if n4 > n1 then n4 else n1 else if n4 < n1 then n4 else n1) (IntKind.wrap IntKind.i64 (n2 + 1)) L)
  (some (LR.ret (Value.int IntKind.i64 n1) L)) := by kernel_rfl
/-- slots 3, 5, 6, 7 -/
noncomputable def f98_l6 (k : Nat) (j6 : Nat) (r6 : Nat) (n7 : Int) (n8 : Int) (n9 : Int) (L : LHeap) : R :=
  loopAt Proofs.Try.prog Proofs.Ytflhogapjmdkaaa.X.T 98 k [1, 1, 1, 1, 0, 1, 0] [] j6
  [(3, Value.pointer (some (Addr.mk r6 0 none))), (5, Value.int IntKind.i64 n7), (6, Value.int IntKind.i64 n8), (7, Value.int IntKind.i64 n9)] L
theorem f98_eq (k : Nat) (l0 : Sl) (L : LHeap) : Proofs.Ytflhogapjmdkaaa.X.f98 (k + 1) l0 L =
  lbind (Proofs.Ytflhogapjmdkaaa.X.f81 k l0 L) fun v1 L2 =>
  obind (tupL v1) fun x3 =>
    uncons x3 fun v4 vs5 =>
      obind (Rlm.asAgg v4) fun x6 =>
        uncons vs5 fun v7 vs8 =>
          obind (asB v7) fun b9 =>
            nilL vs8
              (when (Nat.beq (List.length x6.toList) 16)
                (obind
                  (stores
                    (L2 ++
                      [LBlk.cells
                          [Value.int IntKind.i64 0, Value.int IntKind.i64 0, Value.int IntKind.i64 0, Value.int IntKind.i64 0, Value.int IntKind.i64 0, Value.int IntKind.i64 0,
                            Value.int IntKind.i64 0, Value.int IntKind.i64 0, Value.int IntKind.i64 0, Value.int IntKind.i64 0, Value.int IntKind.i64 0, Value.int IntKind.i64 0,
                            Value.int IntKind.i64 0, Value.int IntKind.i64 0, Value.int IntKind.i64 0, Value.int IntKind.i64 0]
                          137 false 0])
                    (Addr.mk (List.length L2) 0 none) x6.toList)
                  fun L10 =>
                  lif (!b9) (some (LR.ret (Value.bool false) L10))
                    (lif (decide ((↑l0.n : Int) > 512)) (some (LR.ret (Value.bool false) L10)) (Proofs.Ytflhogapjmdkaaa.X.f98_l6 k k (List.length L2) 0 0 1 L10)))) := by kernel_rfl
theorem f98_l6_eq (k : Nat) (j6 : Nat) (r0 : Nat) (n1 : Int) (n2 : Int) (n3 : Int) (L : LHeap) : Proofs.Ytflhogapjmdkaaa.X.f98_l6 k (j6 + 1) r0 n1 n2 n3 L =
  lif (decide (n3 < 16))
  (when (decide (0 ≤ n3))
    (when (decide (n3 < 16))
      (obind (Option.bind (cell L (Addr.add (Addr.mk r0 0 none) (Int.toNat n3 * 1))) (asI IntKind.i64)) fun n4 =>
        when (!decide (IntKind.wrap IntKind.i64 (15 - n3) < 0))
          (when (decide (0 ≤ n3))
            (when (decide (n3 < 16))
              (obind (Option.bind (cell L (Addr.add (Addr.mk r0 0 none) (Int.toNat n3 * 1))) (asI IntKind.i64)) fun n5 =>
                Proofs.Ytflhogapjmdkaaa.X.f98_l6 k j6 r0 (IntKind.wrap IntKind.i64 (n1 + IntKind.wrap IntKind.i64 (n4 * 2 ^ min (Int.toNat (IntKind.wrap IntKind.i64 (15 - n3))) 64)))
                  (IntKind.wrap IntKind.i64 (n2 + n5)) (IntKind.wrap IntKind.i64 (n3 + 1)) L))))))
  (lif (n1 == 0) (some (LR.ret (Value.bool true) L))
    (lif (n1 == 32768) (some (LR.ret (Value.bool true) L)) (lif (n2 == 1) (some (LR.ret (Value.bool (n1 == 16384)) L)) (some (LR.ret (Value.bool false) L))))) := by kernel_rfl
/-- slots 0, 1, 7, 8 -/
noncomputable def f100_l2 (k : Nat) (j2 : Nat) (l9 : Sl) (v10 : Value) (n11 : Int) (n12 : Int) (L : LHeap) : R :=
  loopAt Proofs.Try.prog Proofs.Ytflhogapjmdkaaa.X.T 100 k [1, 0, 1, 0] [] j2 [(0, Value.slice l9.a l9.n l9.c), (1, v10), (7, Value.int IntKind.i64 n11), (8, Value.int IntKind.i64 n12)] L
theorem f100_eq (k : Nat) (l0 : Sl) (v1 : Value) (L : LHeap) : Proofs.Ytflhogapjmdkaaa.X.f100 (k + 1) l0 v1 L =
  Proofs.Ytflhogapjmdkaaa.X.f100_l2 k k l0 v1 (↑l0.n : Int) 0 L := by kernel_rfl
theorem f100_l2_eq (k : Nat) (j2 : Nat) (l0 : Sl) (v1 : Value) (n2 : Int) (n3 : Int) (L : LHeap) : Proofs.Ytflhogapjmdkaaa.X.f100_l2 k (j2 + 1) l0 v1 n2 n3 L =
  lif (decide (n3 < n2))
  (obind (idx l0 n3 1) fun a4 =>
    obind (Option.bind (cell L a4) (asI IntKind.i64)) fun n5 =>
      lbind (lapp (lcall Proofs.Try.prog Proofs.Ytflhogapjmdkaaa.X.T k) v1 [Value.int IntKind.i64 n5] L) fun v6 L7 =>
        obind (asB v6) fun b8 => lif b8 (some (LR.ret (Value.int IntKind.i64 n3) L7)) (Proofs.Ytflhogapjmdkaaa.X.f100_l2 k j2 l0 v1 n2 (IntKind.wrap IntKind.i64 (n3 + 1)) L7))
  (some (LR.ret (Value.int IntKind.i64 (-1)) L)) := by kernel_rfl
/-- slots 0, 1, 3, 7, 8, 9 -/
noncomputable def f101_l3 (k : Nat) (j3 : Nat) (r25 : Nat) (r26 : Nat) (n27 : Int) (l28 : Sl) (n29 : Int) (n30 : Int) (L : LHeap) : R :=
  loopAt Proofs.Try.prog Proofs.Ytflhogapjmdkaaa.X.T 101 k [1, 1, 0, 1, 0] [] j3
  [(0, Value.pointer (some (Addr.mk r25 0 none))), (1, Value.pointer (some (Addr.mk r26 0 none))), (3, Value.int IntKind.i64 n27), (7, Value.slice l28.a l28.n l28.c), (8, Value.int IntKind.i64 n29),
    (9, Value.int IntKind.i64 n30)]
  L
theorem f101_eq (k : Nat) (r0 : Nat) (r1 : Nat) (L : LHeap) : Proofs.Ytflhogapjmdkaaa.X.f101 (k + 1) r0 r1 L =
  obind (Option.bind (cell L (Addr.mk r0 0 none)) asSl) fun l2 => Proofs.Ytflhogapjmdkaaa.X.f101_l3 k k r0 r1 0 l2 (↑l2.n : Int) 0 L := by kernel_rfl
theorem f101_l3_eq (k : Nat) (j3 : Nat) (r0 : Nat) (r1 : Nat) (n2 : Int) (l3 : Sl) (n4 : Int) (n5 : Int) (L : LHeap) : Proofs.Ytflhogapjmdkaaa.X.f101_l3 k (j3 + 1) r0 r1 n2 l3 n4 n5 L =
  lif (decide (n5 < n4))
  (obind (idx l3 n5 1) fun a6 =>
    obind (Option.bind (cell L a6) (asI IntKind.i64)) fun n7 =>
      obind (Option.bind (cell L (Addr.mk r1 0 none)) asSl) fun l8 =>
        obind (idx l8 n7 3) fun a9 =>
          obind (Option.bind (cell L (Addr.add a9 0)) (asI IntKind.i64)) fun n10 =>
            obind (Option.bind (cell L (Addr.mk r1 0 none)) asSl) fun l11 =>
              obind (Option.bind (cell L (Addr.mk r0 0 none)) asSl) fun l12 =>
                obind (idx l12 n2 1) fun a13 =>
                  obind (Option.bind (cell L a13) (asI IntKind.i64)) fun n14 =>
                    obind (idx l11 n14 3) fun a15 =>
                      obind (Option.bind (cell L (Addr.add a15 0)) (asI IntKind.i64)) fun n16 =>
                        lif (decide (n10 < n16)) (Proofs.Ytflhogapjmdkaaa.X.f101_l3 k j3 r0 r1 n5 l3 n4 (IntKind.wrap IntKind.i64 (n5 + 1)) L)
                          (Proofs.Ytflhogapjmdkaaa.X.f101_l3 k j3 r0 r1 n2 l3 n4 (IntKind.wrap IntKind.i64 (n5 + 1)) L))
  (obind (Option.bind (cell L (Addr.mk r0 0 none)) asSl) fun l17 =>
    obind (idx l17 n2 1) fun a18 =>
      obind (Option.bind (cell L a18) (asI IntKind.i64)) fun n19 =>
        obind (Option.bind (cell L (Addr.mk r0 0 none)) asSl) fun l20 =>
          lbind (Proofs.Ytflhogapjmdkaaa.X.f102 k l20 n2 (IntKind.wrap IntKind.i64 (n2 + 1)) L) fun v21 L22 =>
            obind (asSl v21) fun l23 => obind (stores L22 (Addr.mk r0 0 none) [Value.slice l23.a l23.n l23.c]) fun L24 => some (LR.ret (Value.int IntKind.i64 n19) L24)) := by kernel_rfl
theorem f102_eq (k : Nat) (l0 : Sl) (n1 : Int) (n2 : Int) (L : LHeap) : Proofs.Ytflhogapjmdkaaa.X.f102 (k + 1) l0 n1 n2 L =
  obind (cut L l0 (some n1) (some n2) (some (↑l0.n : Int)) 1) fun l3 =>
  lif (n1 == n2) (some (LR.ret (Value.slice l0.a l0.n l0.c) L))
    (obind (cut L l0 none (some n1) none 1) fun l4 =>
      obind (cut L l0 (some n2) none none 1) fun l5 =>
        obind (srcOf L Proofs.Try.prog.types[3].size l5.n (Value.slice l5.a l5.n l5.c)) fun x6 =>
          obind (app L 3 Proofs.Try.prog.types[3].size Proofs.Try.prog.types[3].bytes l4 l5.n x6) fun x7 =>
            obind (cut x7.snd x7.fst (some (↑x7.fst.n : Int)) (some (↑l0.n : Int)) none 1) fun l8 =>
              obind (lcopy x7.snd l8 l8.n (List.length [Value.int IntKind.i64 0]) (List.flatten (List.replicate l8.n [Value.int IntKind.i64 0]))) fun L9 =>
                some (LR.ret (Value.slice x7.fst.a x7.fst.n x7.fst.c) L9)) := by kernel_rfl
theorem f103_eq (k : Nat) (n0 : Int) (n1 : Int) (r2 : Nat) (r3 : Nat) (r4 : Nat) (L : LHeap) : Proofs.Ytflhogapjmdkaaa.X.f103 (k + 1) n0 n1 r2 r3 r4 L =
  obind (Option.bind (cell L (Addr.mk r2 0 none)) asSl) fun l5 =>
  obind (idx l5 n0 3) fun a6 =>
    obind (Option.bind (cell L (Addr.add a6 1)) (asI IntKind.i64)) fun n7 =>
      lif (decide (n7 < 0))
        (obind (Option.bind (cell L (Addr.mk r3 0 none)) asSl) fun l8 =>
          obind (Option.bind (cell L (Addr.mk r2 0 none)) asSl) fun l9 =>
            obind (idx l9 n0 3) fun a10 =>
              obind (Option.bind (cell L (Addr.add a10 2)) (asI IntKind.i64)) fun n11 =>
                obind (idx l8 n11 1) fun a12 => obind (stores L a12 [Value.int IntKind.i64 n1]) fun L13 => some (LR.ret (Value.tuple #[]) L13))
        (obind (cell L (Addr.mk r4 0 none)) fun v14 =>
          obind (Option.bind (cell L (Addr.mk r2 0 none)) asSl) fun l15 =>
            obind (idx l15 n0 3) fun a16 =>
              obind (Option.bind (cell L (Addr.add a16 1)) (asI IntKind.i64)) fun n17 =>
                lbindR (lapp (lcall Proofs.Try.prog Proofs.Ytflhogapjmdkaaa.X.T k) v14 [Value.int IntKind.i64 n17, Value.int IntKind.i64 (IntKind.wrap IntKind.i64 (n1 + 1))] L) fun v18 L19 =>
                  obind (cell L19 (Addr.mk r4 0 none)) fun v20 =>
                    obind (Option.bind (cell L19 (Addr.mk r2 0 none)) asSl) fun l21 =>
                      obind (idx l21 n0 3) fun a22 =>
                        obind (Option.bind (cell L19 (Addr.add a22 2)) (asI IntKind.i64)) fun n23 =>
                          lbindR (lapp (lcall Proofs.Try.prog Proofs.Ytflhogapjmdkaaa.X.T k) v20 [Value.int IntKind.i64 n23, Value.int IntKind.i64 (IntKind.wrap IntKind.i64 (n1 + 1))] L19)
                            fun v24 L25 => some (LR.ret (Value.tuple #[]) L25)) := by kernel_rfl
end Go.Proofs.Ytflhogapjmdkaaa.X
end

section
set_option maxRecDepth 100000
set_option linter.unusedVariables false
namespace Go.Proofs.Ytflhogapjmdkaaa.X
open Go Go.Rlm
/-- The table of math/bits. -/
def len8tab : ByteArray := ⟨(List.replicate 1 0 ++ List.replicate 1 1 ++ List.replicate 2 2 ++ List.replicate 4 3 ++ List.replicate 8 4 ++ List.replicate 16 5 ++ List.replicate 32 6 ++ List.replicate 64 7 ++ List.replicate 128 8 : List UInt8).toArray⟩
/-- hamper/hamperlaw16.BlockPacks -/
noncomputable def f3 (k : Nat) (l0 : Sl) (L : LHeap) : R :=
  lcall Proofs.Try.prog Proofs.Ytflhogapjmdkaaa.X.T k 3 [Value.slice l0.a l0.n l0.c] L
/-- hamper/hamperlaw16.BlockUnpacks -/
noncomputable def f4 (k : Nat) (s0 : ByteArray) (L : LHeap) : R :=
  lcall Proofs.Try.prog Proofs.Ytflhogapjmdkaaa.X.T k 4 [Value.string s0] L
/-- hamper/block.Pack -/
noncomputable def f14 (k : Nat) (l0 : Sl) (L : LHeap) : R :=
  lcall Proofs.Try.prog Proofs.Ytflhogapjmdkaaa.X.T k 14 [Value.slice l0.a l0.n l0.c] L
/-- hamper/block.Shape -/
noncomputable def f16 (k : Nat) (n0 : Int) (n1 : Int) (n2 : Int) (n3 : Int) (n4 : Int) (L : LHeap) : R :=
  lcall Proofs.Try.prog Proofs.Ytflhogapjmdkaaa.X.T k 16 [Value.agg #[Value.int IntKind.u8 n0, Value.int IntKind.u8 n1, Value.int IntKind.i64 n2, Value.int IntKind.i64 n3, Value.int IntKind.i64 n4]] L
/-- hamper/block.Unpack -/
noncomputable def f19 (k : Nat) (s0 : ByteArray) (L : LHeap) : R :=
  lcall Proofs.Try.prog Proofs.Ytflhogapjmdkaaa.X.T k 19 [Value.string s0] L
/-- hamper/block.caught -/
noncomputable def f25 (k : Nat) (v0 : Value) (L : LHeap) : R :=
  lcall Proofs.Try.prog Proofs.Ytflhogapjmdkaaa.X.T k 25 [v0] L
/-- hamper/block.Pack$1 -/
noncomputable def f26 (k : Nat) (r0 : Nat) (r1 : Nat) (L : LHeap) : R :=
  lcall Proofs.Try.prog Proofs.Ytflhogapjmdkaaa.X.T k 26 [Value.pointer (some (Addr.mk r0 0 none)), Value.pointer (some (Addr.mk r1 0 none))] L
/-- hamper/block.packed -/
noncomputable def f27 (k : Nat) (l0 : Sl) (L : LHeap) : R :=
  lcall Proofs.Try.prog Proofs.Ytflhogapjmdkaaa.X.T k 27 [Value.slice l0.a l0.n l0.c] L
/-- hamper/block.lengths -/
noncomputable def f34 (k : Nat) (s0 : ByteArray) (n1 : Int) (L : LHeap) : R :=
  lcall Proofs.Try.prog Proofs.Ytflhogapjmdkaaa.X.T k 34 [Value.string s0, Value.int IntKind.i64 n1] L
/-- (*hamper/block.reader).next -/
noncomputable def f36 (k : Nat) (p0 : Option Addr) (L : LHeap) : R :=
  lcall Proofs.Try.prog Proofs.Ytflhogapjmdkaaa.X.T k 36 [Value.pointer p0] L
/-- hamper/block.must -/
noncomputable def f46 (k : Nat) (n0 : Int) (L : LHeap) : R :=
  lcall Proofs.Try.prog Proofs.Ytflhogapjmdkaaa.X.T k 46 [Value.int IntKind.i64 n0] L
/-- hamper/block.said -/
noncomputable def f47 (k : Nat) (n0 : Int) (n1 : Int) (n2 : Int) (n3 : Int) (n4 : Int) (v5 : Value) (v6 : Value) (v7 : Value) (L : LHeap) : R :=
  lcall Proofs.Try.prog Proofs.Ytflhogapjmdkaaa.X.T k 47
  [Value.agg #[Value.int IntKind.u8 n0, Value.int IntKind.u8 n1, Value.int IntKind.i64 n2, Value.int IntKind.i64 n3, Value.int IntKind.i64 n4], v5, v6, v7] L
/-- hamper/block.packed$1 -/
noncomputable def f48 (k : Nat) (n0 : Int) (r1 : Nat) (L : LHeap) : R :=
  lcall Proofs.Try.prog Proofs.Ytflhogapjmdkaaa.X.T k 48 [Value.int IntKind.i64 n0, Value.pointer (some (Addr.mk r1 0 none))] L
/-- hamper/block.packed$2 -/
noncomputable def f49 (k : Nat) (n0 : Int) (r1 : Nat) (L : LHeap) : R :=
  lcall Proofs.Try.prog Proofs.Ytflhogapjmdkaaa.X.T k 49 [Value.int IntKind.i64 n0, Value.pointer (some (Addr.mk r1 0 none))] L
/-- hamper/block.packed$3 -/
noncomputable def f50 (k : Nat) (n0 : Int) (L : LHeap) : R :=
  lcall Proofs.Try.prog Proofs.Ytflhogapjmdkaaa.X.T k 50 [Value.int IntKind.i64 n0] L
/-- hamper/block.coder -/
noncomputable def f51 (k : Nat) (l0 : Sl) (L : LHeap) : R :=
  lcall Proofs.Try.prog Proofs.Ytflhogapjmdkaaa.X.T k 51 [Value.slice l0.a l0.n l0.c] L
/-- hamper/block.packed$4 -/
noncomputable def f52 (k : Nat) (p0 : Option Addr) (r1 : Nat) (L : LHeap) : R :=
  lcall Proofs.Try.prog Proofs.Ytflhogapjmdkaaa.X.T k 52 [Value.pointer p0, Value.pointer (some (Addr.mk r1 0 none))] L
/-- hamper/block.packed$4$1 -/
noncomputable def f53 (k : Nat) (n0 : Int) (r1 : Nat) (r2 : Nat) (L : LHeap) : R :=
  lcall Proofs.Try.prog Proofs.Ytflhogapjmdkaaa.X.T k 53 [Value.int IntKind.i64 n0, Value.pointer (some (Addr.mk r1 0 none)), Value.pointer (some (Addr.mk r2 0 none))] L
/-- hamper/block.packed$5 -/
noncomputable def f55 (k : Nat) (n0 : Int) (r1 : Nat) (L : LHeap) : R :=
  lcall Proofs.Try.prog Proofs.Ytflhogapjmdkaaa.X.T k 55 [Value.int IntKind.i64 n0, Value.pointer (some (Addr.mk r1 0 none))] L
/-- math/bits.Len -/
noncomputable def f56 (k : Nat) (n0 : Int) (L : LHeap) : R :=
  lcall Proofs.Try.prog Proofs.Ytflhogapjmdkaaa.X.T k 56 [Value.int IntKind.u64 n0] L
/-- hamper/table.Read -/
noncomputable def f62 (k : Nat) (s0 : ByteArray) (n1 : Int) (L : LHeap) : R :=
  lcall Proofs.Try.prog Proofs.Ytflhogapjmdkaaa.X.T k 62 [Value.string s0, Value.int IntKind.i64 n1] L
/-- (*hamper/block.reader).number -/
noncomputable def f65 (k : Nat) (p0 : Option Addr) (n1 : Int) (L : LHeap) : R :=
  lcall Proofs.Try.prog Proofs.Ytflhogapjmdkaaa.X.T k 65 [Value.pointer p0, Value.int IntKind.i64 n1] L
/-- (*hamper/block.reader).long -/
noncomputable def f66 (k : Nat) (p0 : Option Addr) (L : LHeap) : R :=
  lcall Proofs.Try.prog Proofs.Ytflhogapjmdkaaa.X.T k 66 [Value.pointer p0] L
/-- hamper/table.Make -/
noncomputable def f76 (k : Nat) (l0 : Sl) (L : LHeap) : R :=
  lcall Proofs.Try.prog Proofs.Ytflhogapjmdkaaa.X.T k 76 [Value.slice l0.a l0.n l0.c] L
/-- math/bits.Len64 -/
noncomputable def f78 (k : Nat) (n0 : Int) (L : LHeap) : R :=
  lcall Proofs.Try.prog Proofs.Ytflhogapjmdkaaa.X.T k 78 [Value.int IntKind.u64 n0] L
/-- slices.Repeat[[]int,int] -/
noncomputable def f79 (k : Nat) (l0 : Sl) (n1 : Int) (L : LHeap) : R :=
  lcall Proofs.Try.prog Proofs.Ytflhogapjmdkaaa.X.T k 79 [Value.slice l0.a l0.n l0.c, Value.int IntKind.i64 n1] L
/-- hamper/table.Make$1 -/
noncomputable def f95 (k : Nat) (n0 : Int) (L : LHeap) : R :=
  lcall Proofs.Try.prog Proofs.Ytflhogapjmdkaaa.X.T k 95 [Value.int IntKind.i64 n0] L
/-- hamper/table.runs -/
noncomputable def f96 (k : Nat) (l0 : Sl) (L : LHeap) : R :=
  lcall Proofs.Try.prog Proofs.Ytflhogapjmdkaaa.X.T k 96 [Value.slice l0.a l0.n l0.c] L
/-- math/bits.Mul -/
noncomputable def f97 (k : Nat) (n0 : Int) (n1 : Int) (L : LHeap) : R :=
  lcall Proofs.Try.prog Proofs.Ytflhogapjmdkaaa.X.T k 97 [Value.int IntKind.u64 n0, Value.int IntKind.u64 n1] L
/-- hamper/table.runs$1 -/
noncomputable def f104 (k : Nat) (y0 : Nat) (r1 : Nat) (L : LHeap) : R :=
  lcall Proofs.Try.prog Proofs.Ytflhogapjmdkaaa.X.T k 104 [Value.func (Fn.yield y0) #[] #[], Value.pointer (some (Addr.mk r1 0 none))] L
/-- math/bits.Mul64 -/
noncomputable def f106 (k : Nat) (n0 : Int) (n1 : Int) (L : LHeap) : R :=
  lcall Proofs.Try.prog Proofs.Ytflhogapjmdkaaa.X.T k 106 [Value.int IntKind.u64 n0, Value.int IntKind.u64 n1] L
theorem f14_eq (k : Nat) (l0 : Sl) (L : LHeap) : Proofs.Ytflhogapjmdkaaa.X.f14 (k + 1) l0 L =
  lbind
  (Proofs.Ytflhogapjmdkaaa.X.f25 k
    (Value.func (Fn.func 26) #[]
      #[Value.pointer (some (Addr.mk (List.length L) 0 none)), Value.pointer (some (Addr.mk (List.length (L ++ [LBlk.cells [Value.slice l0.a l0.n l0.c] 22 false 0])) 0 none))])
    (L ++ [LBlk.cells [Value.slice l0.a l0.n l0.c] 22 false 0] ++ [LBlk.cells [Value.string (ByteArray.mk #[])] 9 false 0]))
  fun v1 L2 =>
  obind (asI IntKind.i64 v1) fun n3 =>
    obind (Option.bind (cell L2 (Addr.mk (List.length (L ++ [LBlk.cells [Value.slice l0.a l0.n l0.c] 22 false 0])) 0 none)) asS) fun s4 =>
      obind (stores L2 (Addr.mk (List.length (L ++ [LBlk.cells [Value.slice l0.a l0.n l0.c] 22 false 0])) 0 none) [Value.string s4]) fun L5 =>
        obind (Option.bind (cell L5 (Addr.mk (List.length (L ++ [LBlk.cells [Value.slice l0.a l0.n l0.c] 22 false 0])) 0 none)) asS) fun s6 =>
          some (LR.ret (Value.tuple #[Value.string s6, Value.int IntKind.i64 n3]) L5) := by kernel_rfl
theorem f16_eq (k : Nat) (n0 : Int) (n1 : Int) (n2 : Int) (n3 : Int) (n4 : Int) (L : LHeap) : Proofs.Ytflhogapjmdkaaa.X.f16 (k + 1) n0 n1 n2 n3 n4 L =
  obind
  (Option.bind
    (cell (L ++ [LBlk.cells [Value.int IntKind.u8 n0, Value.int IntKind.u8 n1, Value.int IntKind.i64 n2, Value.int IntKind.i64 n3, Value.int IntKind.i64 n4] 29 false 0])
      (Addr.add (Addr.mk (List.length L) 0 none) 2))
    (asI IntKind.i64))
  fun n5 =>
  lif (decide (n5 ≥ 3))
    (obind
      (Option.bind
        (cell (L ++ [LBlk.cells [Value.int IntKind.u8 n0, Value.int IntKind.u8 n1, Value.int IntKind.i64 n2, Value.int IntKind.i64 n3, Value.int IntKind.i64 n4] 29 false 0])
          (Addr.add (Addr.mk (List.length L) 0 none) 2))
        (asI IntKind.i64))
      fun n6 =>
      obind
        (Option.bind
          (cell (L ++ [LBlk.cells [Value.int IntKind.u8 n0, Value.int IntKind.u8 n1, Value.int IntKind.i64 n2, Value.int IntKind.i64 n3, Value.int IntKind.i64 n4] 29 false 0])
            (Addr.add (Addr.mk (List.length L) 0 none) 0))
          (asI IntKind.u8))
        fun n7 =>
        obind
          (Option.bind
            (cell (L ++ [LBlk.cells [Value.int IntKind.u8 n0, Value.int IntKind.u8 n1, Value.int IntKind.i64 n2, Value.int IntKind.i64 n3, Value.int IntKind.i64 n4] 29 false 0])
              (Addr.add (Addr.mk (List.length L) 0 none) 1))
            (asI IntKind.u8))
          fun n8 =>
          obind
            (Option.bind
              (cell (L ++ [LBlk.cells [Value.int IntKind.u8 n0, Value.int IntKind.u8 n1, Value.int IntKind.i64 n2, Value.int IntKind.i64 n3, Value.int IntKind.i64 n4] 29 false 0])
                (Addr.add (Addr.mk (List.length L) 0 none) 2))
              (asI IntKind.i64))
            fun n9 =>
            obind
              (Option.bind
                (cell (L ++ [LBlk.cells [Value.int IntKind.u8 n0, Value.int IntKind.u8 n1, Value.int IntKind.i64 n2, Value.int IntKind.i64 n3, Value.int IntKind.i64 n4] 29 false 0])
                  (Addr.add (Addr.mk (List.length L) 0 none) 3))
                (asI IntKind.i64))
              fun n10 =>
              obind
                (Option.bind
                  (cell (L ++ [LBlk.cells [Value.int IntKind.u8 n0, Value.int IntKind.u8 n1, Value.int IntKind.i64 n2, Value.int IntKind.i64 n3, Value.int IntKind.i64 n4] 29 false 0])
                    (Addr.add (Addr.mk (List.length L) 0 none) 4))
                  (asI IntKind.i64))
                fun n11 =>
                obind
                  (Option.bind
                    (cell (L ++ [LBlk.cells [Value.int IntKind.u8 n0, Value.int IntKind.u8 n1, Value.int IntKind.i64 n2, Value.int IntKind.i64 n3, Value.int IntKind.i64 n4] 29 false 0])
                      (Addr.add (Addr.mk (List.length L) 0 none) 1))
                    (asI IntKind.u8))
                  fun n12 =>
                  lif (n7 == 1 && (n8 == n12 && (n9 == 0 && (n10 == 0 && (n11 == 0 && true)))))
                    (some
                      (LR.ret (Value.bool true)
                        (L ++ [LBlk.cells [Value.int IntKind.u8 n0, Value.int IntKind.u8 n1, Value.int IntKind.i64 n2, Value.int IntKind.i64 n3, Value.int IntKind.i64 n4] 29 false 0])))
                    (obind
                      (Option.bind
                        (cell (L ++ [LBlk.cells [Value.int IntKind.u8 n0, Value.int IntKind.u8 n1, Value.int IntKind.i64 n2, Value.int IntKind.i64 n3, Value.int IntKind.i64 n4] 29 false 0])
                          (Addr.add (Addr.mk (List.length L) 0 none) 2))
                        (asI IntKind.i64))
                      fun n13 =>
                      obind
                        (Option.bind
                          (cell (L ++ [LBlk.cells [Value.int IntKind.u8 n0, Value.int IntKind.u8 n1, Value.int IntKind.i64 n2, Value.int IntKind.i64 n3, Value.int IntKind.i64 n4] 29 false 0])
                            (Addr.add (Addr.mk (List.length L) 0 none) 3))
                          (asI IntKind.i64))
                        fun n14 =>
                        lif (n7 == 2 && (n8 == 0 && (n9 == n13 && (n10 == n14 && (n11 == 0 && true)))))
                          (lif (decide (n6 ≤ 258))
                            (obind
                              (Option.bind
                                (cell (L ++ [LBlk.cells [Value.int IntKind.u8 n0, Value.int IntKind.u8 n1, Value.int IntKind.i64 n2, Value.int IntKind.i64 n3, Value.int IntKind.i64 n4] 29 false 0])
                                  (Addr.add (Addr.mk (List.length L) 0 none) 3))
                                (asI IntKind.i64))
                              fun n15 =>
                              lif (decide (n15 ≥ 1))
                                (obind
                                  (Option.bind
                                    (cell
                                      (L ++ [LBlk.cells [Value.int IntKind.u8 n0, Value.int IntKind.u8 n1, Value.int IntKind.i64 n2, Value.int IntKind.i64 n3, Value.int IntKind.i64 n4] 29 false 0])
                                      (Addr.add (Addr.mk (List.length L) 0 none) 3))
                                    (asI IntKind.i64))
                                  fun n16 =>
                                  some
                                    (LR.ret (Value.bool (decide (n16 ≤ 32768)))
                                      (L ++ [LBlk.cells [Value.int IntKind.u8 n0, Value.int IntKind.u8 n1, Value.int IntKind.i64 n2, Value.int IntKind.i64 n3, Value.int IntKind.i64 n4] 29 false 0])))
                                (some
                                  (LR.ret (Value.bool false)
                                    (L ++ [LBlk.cells [Value.int IntKind.u8 n0, Value.int IntKind.u8 n1, Value.int IntKind.i64 n2, Value.int IntKind.i64 n3, Value.int IntKind.i64 n4] 29 false 0]))))
                            (some
                              (LR.ret (Value.bool false)
                                (L ++ [LBlk.cells [Value.int IntKind.u8 n0, Value.int IntKind.u8 n1, Value.int IntKind.i64 n2, Value.int IntKind.i64 n3, Value.int IntKind.i64 n4] 29 false 0]))))
                          (obind
                            (Option.bind
                              (cell (L ++ [LBlk.cells [Value.int IntKind.u8 n0, Value.int IntKind.u8 n1, Value.int IntKind.i64 n2, Value.int IntKind.i64 n3, Value.int IntKind.i64 n4] 29 false 0])
                                (Addr.add (Addr.mk (List.length L) 0 none) 2))
                              (asI IntKind.i64))
                            fun n17 =>
                            obind
                              (Option.bind
                                (cell (L ++ [LBlk.cells [Value.int IntKind.u8 n0, Value.int IntKind.u8 n1, Value.int IntKind.i64 n2, Value.int IntKind.i64 n3, Value.int IntKind.i64 n4] 29 false 0])
                                  (Addr.add (Addr.mk (List.length L) 0 none) 4))
                                (asI IntKind.i64))
                              fun n18 =>
                              lif (n7 == 3 && (n8 == 0 && (n9 == n17 && (n10 == 0 && (n11 == n18 && true)))))
                                (lif (decide (n6 ≤ 258))
                                  (obind
                                    (Option.bind
                                      (cell
                                        (L ++ [LBlk.cells [Value.int IntKind.u8 n0, Value.int IntKind.u8 n1, Value.int IntKind.i64 n2, Value.int IntKind.i64 n3, Value.int IntKind.i64 n4] 29 false 0])
                                        (Addr.add (Addr.mk (List.length L) 0 none) 4))
                                      (asI IntKind.i64))
                                    fun n19 =>
                                    lif (decide (n19 ≥ 0))
                                      (obind
                                        (Option.bind
                                          (cell
                                            (L ++
                                              [LBlk.cells [Value.int IntKind.u8 n0, Value.int IntKind.u8 n1, Value.int IntKind.i64 n2, Value.int IntKind.i64 n3, Value.int IntKind.i64 n4] 29 false 0])
                                            (Addr.add (Addr.mk (List.length L) 0 none) 4))
                                          (asI IntKind.i64))
                                        fun n20 =>
                                        some
                                          (LR.ret (Value.bool (decide (n20 < 4)))
                                            (L ++
                                              [LBlk.cells [Value.int IntKind.u8 n0, Value.int IntKind.u8 n1, Value.int IntKind.i64 n2, Value.int IntKind.i64 n3, Value.int IntKind.i64 n4] 29 false
                                                  0])))
                                      (some
                                        (LR.ret (Value.bool false)
                                          (L ++
                                            [LBlk.cells [Value.int IntKind.u8 n0, Value.int IntKind.u8 n1, Value.int IntKind.i64 n2, Value.int IntKind.i64 n3, Value.int IntKind.i64 n4] 29 false 0]))))
                                  (some
                                    (LR.ret (Value.bool false)
                                      (L ++ [LBlk.cells [Value.int IntKind.u8 n0, Value.int IntKind.u8 n1, Value.int IntKind.i64 n2, Value.int IntKind.i64 n3, Value.int IntKind.i64 n4] 29 false 0]))))
                                (some
                                  (LR.ret (Value.bool false)
                                    (L ++ [LBlk.cells [Value.int IntKind.u8 n0, Value.int IntKind.u8 n1, Value.int IntKind.i64 n2, Value.int IntKind.i64 n3, Value.int IntKind.i64 n4] 29 false 0]))))))
    (obind
      (Option.bind
        (cell (L ++ [LBlk.cells [Value.int IntKind.u8 n0, Value.int IntKind.u8 n1, Value.int IntKind.i64 n2, Value.int IntKind.i64 n3, Value.int IntKind.i64 n4] 29 false 0])
          (Addr.add (Addr.mk (List.length L) 0 none) 0))
        (asI IntKind.u8))
      fun n21 =>
      obind
        (Option.bind
          (cell (L ++ [LBlk.cells [Value.int IntKind.u8 n0, Value.int IntKind.u8 n1, Value.int IntKind.i64 n2, Value.int IntKind.i64 n3, Value.int IntKind.i64 n4] 29 false 0])
            (Addr.add (Addr.mk (List.length L) 0 none) 1))
          (asI IntKind.u8))
        fun n22 =>
        obind
          (Option.bind
            (cell (L ++ [LBlk.cells [Value.int IntKind.u8 n0, Value.int IntKind.u8 n1, Value.int IntKind.i64 n2, Value.int IntKind.i64 n3, Value.int IntKind.i64 n4] 29 false 0])
              (Addr.add (Addr.mk (List.length L) 0 none) 2))
            (asI IntKind.i64))
          fun n23 =>
          obind
            (Option.bind
              (cell (L ++ [LBlk.cells [Value.int IntKind.u8 n0, Value.int IntKind.u8 n1, Value.int IntKind.i64 n2, Value.int IntKind.i64 n3, Value.int IntKind.i64 n4] 29 false 0])
                (Addr.add (Addr.mk (List.length L) 0 none) 3))
              (asI IntKind.i64))
            fun n24 =>
            obind
              (Option.bind
                (cell (L ++ [LBlk.cells [Value.int IntKind.u8 n0, Value.int IntKind.u8 n1, Value.int IntKind.i64 n2, Value.int IntKind.i64 n3, Value.int IntKind.i64 n4] 29 false 0])
                  (Addr.add (Addr.mk (List.length L) 0 none) 4))
                (asI IntKind.i64))
              fun n25 =>
              obind
                (Option.bind
                  (cell (L ++ [LBlk.cells [Value.int IntKind.u8 n0, Value.int IntKind.u8 n1, Value.int IntKind.i64 n2, Value.int IntKind.i64 n3, Value.int IntKind.i64 n4] 29 false 0])
                    (Addr.add (Addr.mk (List.length L) 0 none) 1))
                  (asI IntKind.u8))
                fun n26 =>
                lif (n21 == 1 && (n22 == n26 && (n23 == 0 && (n24 == 0 && (n25 == 0 && true)))))
                  (some
                    (LR.ret (Value.bool true)
                      (L ++ [LBlk.cells [Value.int IntKind.u8 n0, Value.int IntKind.u8 n1, Value.int IntKind.i64 n2, Value.int IntKind.i64 n3, Value.int IntKind.i64 n4] 29 false 0])))
                  (obind
                    (Option.bind
                      (cell (L ++ [LBlk.cells [Value.int IntKind.u8 n0, Value.int IntKind.u8 n1, Value.int IntKind.i64 n2, Value.int IntKind.i64 n3, Value.int IntKind.i64 n4] 29 false 0])
                        (Addr.add (Addr.mk (List.length L) 0 none) 2))
                      (asI IntKind.i64))
                    fun n27 =>
                    obind
                      (Option.bind
                        (cell (L ++ [LBlk.cells [Value.int IntKind.u8 n0, Value.int IntKind.u8 n1, Value.int IntKind.i64 n2, Value.int IntKind.i64 n3, Value.int IntKind.i64 n4] 29 false 0])
                          (Addr.add (Addr.mk (List.length L) 0 none) 3))
                        (asI IntKind.i64))
                      fun n28 =>
                      lif (n21 == 2 && (n22 == 0 && (n23 == n27 && (n24 == n28 && (n25 == 0 && true)))))
                        (some
                          (LR.ret (Value.bool false)
                            (L ++ [LBlk.cells [Value.int IntKind.u8 n0, Value.int IntKind.u8 n1, Value.int IntKind.i64 n2, Value.int IntKind.i64 n3, Value.int IntKind.i64 n4] 29 false 0])))
                        (obind
                          (Option.bind
                            (cell (L ++ [LBlk.cells [Value.int IntKind.u8 n0, Value.int IntKind.u8 n1, Value.int IntKind.i64 n2, Value.int IntKind.i64 n3, Value.int IntKind.i64 n4] 29 false 0])
                              (Addr.add (Addr.mk (List.length L) 0 none) 2))
                            (asI IntKind.i64))
                          fun n29 =>
                          obind
                            (Option.bind
                              (cell (L ++ [LBlk.cells [Value.int IntKind.u8 n0, Value.int IntKind.u8 n1, Value.int IntKind.i64 n2, Value.int IntKind.i64 n3, Value.int IntKind.i64 n4] 29 false 0])
                                (Addr.add (Addr.mk (List.length L) 0 none) 4))
                              (asI IntKind.i64))
                            fun n30 =>
                            lif (n21 == 3 && (n22 == 0 && (n23 == n29 && (n24 == 0 && (n25 == n30 && true)))))
                              (some
                                (LR.ret (Value.bool false)
                                  (L ++ [LBlk.cells [Value.int IntKind.u8 n0, Value.int IntKind.u8 n1, Value.int IntKind.i64 n2, Value.int IntKind.i64 n3, Value.int IntKind.i64 n4] 29 false 0])))
                              (some
                                (LR.ret (Value.bool false)
                                  (L ++ [LBlk.cells [Value.int IntKind.u8 n0, Value.int IntKind.u8 n1, Value.int IntKind.i64 n2, Value.int IntKind.i64 n3, Value.int IntKind.i64 n4] 29 false 0])))))) := by kernel_rfl
/-- slots 7, 8 -/
noncomputable def f19_l9 (k : Nat) (j9 : Nat) (r64 : Nat) (l65 : Sl) (L : LHeap) : R :=
  loopAt Proofs.Try.prog Proofs.Ytflhogapjmdkaaa.X.T 19 k [1, 1, 1, 1, 1, 1, 1, 0] [] j9 [(7, Value.pointer (some (Addr.mk r64 0 none))), (8, Value.slice l65.a l65.n l65.c)] L
theorem f19_eq (k : Nat) (s0 : ByteArray) (L : LHeap) : Proofs.Ytflhogapjmdkaaa.X.f19 (k + 1) s0 L =
  lbind (Proofs.Ytflhogapjmdkaaa.X.f34 k s0 277 L) fun v1 L2 =>
  obind (tupL v1) fun x3 =>
    uncons x3 fun v4 vs5 =>
      obind (asP v4) fun x6 =>
        uncons vs5 fun v7 vs8 =>
          obind (asS v7) fun s9 =>
            uncons vs8 fun v10 vs11 =>
              obind (asI IntKind.i64 v10) fun n12 =>
                nilL vs11
                  (lif (n12 != 0) (some (LR.ret (Value.tuple #[Value.slice none 0 0, Value.int IntKind.i64 4]) L2))
                    (lbind (Proofs.Ytflhogapjmdkaaa.X.f34 k s9 9 L2) fun v13 L14 =>
                      obind (tupL v13) fun x15 =>
                        uncons x15 fun v16 vs17 =>
                          obind (asP v16) fun x18 =>
                            uncons vs17 fun v19 vs20 =>
                              obind (asS v19) fun s21 =>
                                uncons vs20 fun v22 vs23 =>
                                  obind (asI IntKind.i64 v22) fun n24 =>
                                    nilL vs23
                                      (lif (n24 != 0) (some (LR.ret (Value.tuple #[Value.slice none 0 0, Value.int IntKind.i64 4]) L14))
                                        (lbind (Proofs.Ytflhogapjmdkaaa.X.f35 k s21 L14) fun v25 L26 =>
                                          obind (asP v25) fun x27 =>
                                            Proofs.Ytflhogapjmdkaaa.X.f19_l9 k k (List.length L26) (Sl.mk none 0 0)
                                              (L26 ++ [LBlk.cells [Value.pointer x27, Value.pointer x6, Value.pointer x18] 65 false 0]))))) := by kernel_rfl
theorem f19_l9_eq (k : Nat) (j9 : Nat) (r0 : Nat) (l1 : Sl) (L : LHeap) : Proofs.Ytflhogapjmdkaaa.X.f19_l9 k (j9 + 1) r0 l1 L =
  lbind (Proofs.Ytflhogapjmdkaaa.X.f36 k (some (Addr.mk r0 0 none)) L) fun v2 L3 =>
  obind (tupL v2) fun x4 =>
    uncons x4 fun v5 vs6 =>
      obind (aggL (List.length ([Leaf.i IntKind.u8] ++ ([Leaf.i IntKind.u8] ++ ([Leaf.i IntKind.i64] ++ ([Leaf.i IntKind.i64] ++ ([Leaf.i IntKind.i64] ++ [])))))) v5) fun x7 =>
        uncons x7 fun v8 vs9 =>
          obind (asI IntKind.u8 v8) fun n10 =>
            uncons vs9 fun v11 vs12 =>
              obind (asI IntKind.u8 v11) fun n13 =>
                uncons vs12 fun v14 vs15 =>
                  obind (asI IntKind.i64 v14) fun n16 =>
                    uncons vs15 fun v17 vs18 =>
                      obind (asI IntKind.i64 v17) fun n19 =>
                        uncons vs18 fun v20 vs21 =>
                          obind (asI IntKind.i64 v20) fun n22 =>
                            uncons vs6 fun v23 vs24 =>
                              obind (asB v23) fun b25 =>
                                uncons vs24 fun v26 vs27 =>
                                  obind (asI IntKind.i64 v26) fun n28 =>
                                    nilL vs27
                                      (obind
                                        (stores
                                          (L3 ++ [LBlk.cells [Value.int IntKind.u8 0, Value.int IntKind.u8 0, Value.int IntKind.i64 0, Value.int IntKind.i64 0, Value.int IntKind.i64 0] 29 false 0])
                                          (Addr.mk (List.length L3) 0 none)
                                          [Value.int IntKind.u8 n10, Value.int IntKind.u8 n13, Value.int IntKind.i64 n16, Value.int IntKind.i64 n19, Value.int IntKind.i64 n22])
                                        fun L29 =>
                                        lif (n28 != 0) (some (LR.ret (Value.tuple #[Value.slice none 0 0, Value.int IntKind.i64 4]) L29))
                                          (lif (!b25)
                                            (obind (Option.bind (cell L29 (Addr.add (Addr.mk r0 0 none) 0)) asP) fun x30 =>
                                              lbind (Proofs.Ytflhogapjmdkaaa.X.f37 k x30 L29) fun v31 L32 =>
                                                obind (asB v31) fun b33 =>
                                                  lif (!b33) (some (LR.ret (Value.tuple #[Value.slice none 0 0, Value.int IntKind.i64 4]) L32))
                                                    (lif (!b25) (some (LR.ret (Value.tuple #[Value.slice l1.a l1.n l1.c, Value.int IntKind.i64 0]) L32))
                                                      (obind (Option.bind (cell L32 (Addr.add (Addr.mk (List.length L3) 0 none) 0)) (asI IntKind.u8)) fun n34 =>
                                                        obind (Option.bind (cell L32 (Addr.add (Addr.mk (List.length L3) 0 none) 1)) (asI IntKind.u8)) fun n35 =>
                                                          obind (Option.bind (cell L32 (Addr.add (Addr.mk (List.length L3) 0 none) 2)) (asI IntKind.i64)) fun n36 =>
                                                            obind (Option.bind (cell L32 (Addr.add (Addr.mk (List.length L3) 0 none) 3)) (asI IntKind.i64)) fun n37 =>
                                                              obind (Option.bind (cell L32 (Addr.add (Addr.mk (List.length L3) 0 none) 4)) (asI IntKind.i64)) fun n38 =>
                                                                lbind (Proofs.Ytflhogapjmdkaaa.X.f16 k n34 n35 n36 n37 n38 L32) fun v39 L40 =>
                                                                  obind (asB v39) fun b41 =>
                                                                    lif (!b41) (some (LR.ret (Value.tuple #[Value.slice none 0 0, Value.int IntKind.i64 4]) L40))
                                                                      (obind (Option.bind (cell L40 (Addr.add (Addr.mk (List.length L3) 0 none) 0)) (asI IntKind.u8)) fun n42 =>
                                                                        obind (Option.bind (cell L40 (Addr.add (Addr.mk (List.length L3) 0 none) 1)) (asI IntKind.u8)) fun n43 =>
                                                                          obind (Option.bind (cell L40 (Addr.add (Addr.mk (List.length L3) 0 none) 2)) (asI IntKind.i64)) fun n44 =>
                                                                            obind (Option.bind (cell L40 (Addr.add (Addr.mk (List.length L3) 0 none) 3)) (asI IntKind.i64)) fun n45 =>
                                                                              obind (Option.bind (cell L40 (Addr.add (Addr.mk (List.length L3) 0 none) 4)) (asI IntKind.i64)) fun n46 =>
                                                                                obind
                                                                                  (srcOf
                                                                                    (L40 ++
                                                                                      [LBlk.cells
                                                                                          [Value.int IntKind.u8 n42, Value.int IntKind.u8 n43, Value.int IntKind.i64 n44, Value.int IntKind.i64 n45,
                                                                                            Value.int IntKind.i64 n46]
                                                                                          29 false 0])
                                                                                    Proofs.Try.prog.types[29].size 1 (Value.slice (some (Addr.mk (List.length L40) 0 none)) 1 1))
                                                                                  fun x47 =>
                                                                                  obind
                                                                                    (app
                                                                                      (L40 ++
                                                                                        [LBlk.cells
                                                                                            [Value.int IntKind.u8 n42, Value.int IntKind.u8 n43, Value.int IntKind.i64 n44, Value.int IntKind.i64 n45,
                                                                                              Value.int IntKind.i64 n46]
                                                                                            29 false 0])
                                                                                      29 Proofs.Try.prog.types[29].size Proofs.Try.prog.types[29].bytes l1 1 x47)
                                                                                    fun x48 => Proofs.Ytflhogapjmdkaaa.X.f19_l9 k j9 r0 x48.fst x48.snd))))
                                            (lif (!b25) (some (LR.ret (Value.tuple #[Value.slice l1.a l1.n l1.c, Value.int IntKind.i64 0]) L29))
                                              (obind (Option.bind (cell L29 (Addr.add (Addr.mk (List.length L3) 0 none) 0)) (asI IntKind.u8)) fun n49 =>
                                                obind (Option.bind (cell L29 (Addr.add (Addr.mk (List.length L3) 0 none) 1)) (asI IntKind.u8)) fun n50 =>
                                                  obind (Option.bind (cell L29 (Addr.add (Addr.mk (List.length L3) 0 none) 2)) (asI IntKind.i64)) fun n51 =>
                                                    obind (Option.bind (cell L29 (Addr.add (Addr.mk (List.length L3) 0 none) 3)) (asI IntKind.i64)) fun n52 =>
                                                      obind (Option.bind (cell L29 (Addr.add (Addr.mk (List.length L3) 0 none) 4)) (asI IntKind.i64)) fun n53 =>
                                                        lbind (Proofs.Ytflhogapjmdkaaa.X.f16 k n49 n50 n51 n52 n53 L29) fun v54 L55 =>
                                                          obind (asB v54) fun b56 =>
                                                            lif (!b56) (some (LR.ret (Value.tuple #[Value.slice none 0 0, Value.int IntKind.i64 4]) L55))
                                                              (obind (Option.bind (cell L55 (Addr.add (Addr.mk (List.length L3) 0 none) 0)) (asI IntKind.u8)) fun n57 =>
                                                                obind (Option.bind (cell L55 (Addr.add (Addr.mk (List.length L3) 0 none) 1)) (asI IntKind.u8)) fun n58 =>
                                                                  obind (Option.bind (cell L55 (Addr.add (Addr.mk (List.length L3) 0 none) 2)) (asI IntKind.i64)) fun n59 =>
                                                                    obind (Option.bind (cell L55 (Addr.add (Addr.mk (List.length L3) 0 none) 3)) (asI IntKind.i64)) fun n60 =>
                                                                      obind (Option.bind (cell L55 (Addr.add (Addr.mk (List.length L3) 0 none) 4)) (asI IntKind.i64)) fun n61 =>
                                                                        obind
                                                                          (srcOf
                                                                            (L55 ++
                                                                              [LBlk.cells
                                                                                  [Value.int IntKind.u8 n57, Value.int IntKind.u8 n58, Value.int IntKind.i64 n59, Value.int IntKind.i64 n60,
                                                                                    Value.int IntKind.i64 n61]
                                                                                  29 false 0])
                                                                            Proofs.Try.prog.types[29].size 1 (Value.slice (some (Addr.mk (List.length L55) 0 none)) 1 1))
                                                                          fun x62 =>
                                                                          obind
                                                                            (app
                                                                              (L55 ++
                                                                                [LBlk.cells
                                                                                    [Value.int IntKind.u8 n57, Value.int IntKind.u8 n58, Value.int IntKind.i64 n59, Value.int IntKind.i64 n60,
                                                                                      Value.int IntKind.i64 n61]
                                                                                    29 false 0])
                                                                              29 Proofs.Try.prog.types[29].size Proofs.Try.prog.types[29].bytes l1 1 x62)
                                                                            fun x63 => Proofs.Ytflhogapjmdkaaa.X.f19_l9 k j9 r0 x63.fst x63.snd))))) := by kernel_rfl
theorem f26_eq (k : Nat) (r0 : Nat) (r1 : Nat) (L : LHeap) : Proofs.Ytflhogapjmdkaaa.X.f26 (k + 1) r0 r1 L =
  obind (Option.bind (cell L (Addr.mk r0 0 none)) asSl) fun l2 =>
  lbind (Proofs.Ytflhogapjmdkaaa.X.f27 k l2 L) fun v3 L4 => obind (asS v3) fun s5 => obind (stores L4 (Addr.mk r1 0 none) [Value.string s5]) fun L6 => some (LR.ret (Value.tuple #[]) L6) := by kernel_rfl
/-- slots 0, 3, 4, 17, 18, 19 -/
noncomputable def f27_l4 (k : Nat) (j4 : Nat) (l46 : Sl) (r47 : Nat) (r48 : Nat) (l49 : Sl) (n50 : Int) (n51 : Int) (L : LHeap) : R :=
  loopAt Proofs.Try.prog Proofs.Ytflhogapjmdkaaa.X.T 27 k [1, 1, 1, 0, 1, 0] [] j4
  [(0, Value.slice l46.a l46.n l46.c), (3, Value.pointer (some (Addr.mk r47 0 none))), (4, Value.pointer (some (Addr.mk r48 0 none))), (17, Value.slice l49.a l49.n l49.c),
    (18, Value.int IntKind.i64 n50), (19, Value.int IntKind.i64 n51)]
  L
/-- slots 7, 8, 9, 10, 11, 12, 13, 46, 47, 48 -/
noncomputable def f27_l16 (k : Nat) (j16 : Nat) (p52 : Option Addr) (s53 : ByteArray) (p54 : Option Addr) (s55 : ByteArray) (r56 : Nat) (r57 : Nat) (r58 : Nat) (l59 : Sl) (n60 : Int) (n61 : Int) (L : LHeap) : R :=
  loopAt Proofs.Try.prog Proofs.Ytflhogapjmdkaaa.X.T 27 k [1, 1, 1, 1, 1, 1, 1, 1, 1, 0, 1, 0] [] j16
  [(7, Value.pointer p52), (8, Value.string s53), (9, Value.pointer p54), (10, Value.string s55), (11, Value.pointer (some (Addr.mk r56 0 none))),
    (12, Value.func (Fn.func 52) #[] #[Value.pointer (some (Addr.mk r57 0 none))]), (13, Value.func (Fn.func 55) #[] #[Value.pointer (some (Addr.mk r58 0 none))]), (46, Value.slice l59.a l59.n l59.c),
    (47, Value.int IntKind.i64 n60), (48, Value.int IntKind.i64 n61)]
  L
theorem f27_eq (k : Nat) (l0 : Sl) (L : LHeap) : Proofs.Ytflhogapjmdkaaa.X.f27 (k + 1) l0 L =
  obind
  (stores
    (L ++
        [LBlk.cells
            (List.replicate 277 (Value.int IntKind.i64 0))
            80 false 0] ++
      [LBlk.cells
          (List.replicate 277 (Value.int IntKind.i64 0))
          80 false 0])
    (Addr.add (Addr.mk (List.length L) 0 none) 256) [Value.int IntKind.i64 1])
  fun L1 =>
  Proofs.Ytflhogapjmdkaaa.X.f27_l4 k k l0 (List.length L)
    (List.length
      (L ++
        [LBlk.cells
            (List.replicate 277 (Value.int IntKind.i64 0))
            80 false 0]))
    l0 (↑l0.n : Int) 0 L1 := by kernel_rfl
theorem f27_l4_eq (k : Nat) (j4 : Nat) (l0 : Sl) (r1 : Nat) (r2 : Nat) (l3 : Sl) (n4 : Int) (n5 : Int) (L : LHeap) : Proofs.Ytflhogapjmdkaaa.X.f27_l4 k (j4 + 1) l0 r1 r2 l3 n4 n5 L =
  lif (decide (n5 < n4))
  (obind (idx l3 n5 5) fun a6 =>
    obind (Option.bind (cell L (Addr.add a6 0)) (asI IntKind.u8)) fun n7 =>
      obind (Option.bind (cell L (Addr.add a6 1)) (asI IntKind.u8)) fun n8 =>
        obind (Option.bind (cell L (Addr.add a6 2)) (asI IntKind.i64)) fun n9 =>
          obind (Option.bind (cell L (Addr.add a6 3)) (asI IntKind.i64)) fun n10 =>
            obind (Option.bind (cell L (Addr.add a6 4)) (asI IntKind.i64)) fun n11 =>
              obind
                (stores (L ++ [LBlk.cells [Value.int IntKind.u8 0, Value.int IntKind.u8 0, Value.int IntKind.i64 0, Value.int IntKind.i64 0, Value.int IntKind.i64 0] 29 false 0])
                  (Addr.mk (List.length L) 0 none) [Value.int IntKind.u8 n7, Value.int IntKind.u8 n8, Value.int IntKind.i64 n9, Value.int IntKind.i64 n10, Value.int IntKind.i64 n11])
                fun L12 =>
                obind (Option.bind (cell L12 (Addr.add (Addr.mk (List.length L) 0 none) 0)) (asI IntKind.u8)) fun n13 =>
                  obind (Option.bind (cell L12 (Addr.add (Addr.mk (List.length L) 0 none) 1)) (asI IntKind.u8)) fun n14 =>
                    obind (Option.bind (cell L12 (Addr.add (Addr.mk (List.length L) 0 none) 2)) (asI IntKind.i64)) fun n15 =>
                      obind (Option.bind (cell L12 (Addr.add (Addr.mk (List.length L) 0 none) 3)) (asI IntKind.i64)) fun n16 =>
                        obind (Option.bind (cell L12 (Addr.add (Addr.mk (List.length L) 0 none) 4)) (asI IntKind.i64)) fun n17 =>
                          lbind (Proofs.Ytflhogapjmdkaaa.X.f16 k n13 n14 n15 n16 n17 L12) fun v18 L19 =>
                            obind (asB v18) fun b20 =>
                              lif (!b20)
                                (lbind (Proofs.Ytflhogapjmdkaaa.X.f46 k 4 L19) fun v21 L22 =>
                                  obind (Option.bind (cell L22 (Addr.add (Addr.mk (List.length L) 0 none) 0)) (asI IntKind.u8)) fun n23 =>
                                    obind (Option.bind (cell L22 (Addr.add (Addr.mk (List.length L) 0 none) 1)) (asI IntKind.u8)) fun n24 =>
                                      obind (Option.bind (cell L22 (Addr.add (Addr.mk (List.length L) 0 none) 2)) (asI IntKind.i64)) fun n25 =>
                                        obind (Option.bind (cell L22 (Addr.add (Addr.mk (List.length L) 0 none) 3)) (asI IntKind.i64)) fun n26 =>
                                          obind (Option.bind (cell L22 (Addr.add (Addr.mk (List.length L) 0 none) 4)) (asI IntKind.i64)) fun n27 =>
                                            lbind
                                              (Proofs.Ytflhogapjmdkaaa.X.f47 k n23 n24 n25 n26 n27 (Value.func (Fn.func 48) #[] #[Value.pointer (some (Addr.mk r1 0 none))])
                                                (Value.func (Fn.func 49) #[] #[Value.pointer (some (Addr.mk r2 0 none))]) (Value.func (Fn.func 50) #[] #[]) L22)
                                              fun v28 L29 => Proofs.Ytflhogapjmdkaaa.X.f27_l4 k j4 l0 r1 r2 l3 n4 (IntKind.wrap IntKind.i64 (n5 + 1)) L29)
                                (obind (Option.bind (cell L19 (Addr.add (Addr.mk (List.length L) 0 none) 0)) (asI IntKind.u8)) fun n30 =>
                                  obind (Option.bind (cell L19 (Addr.add (Addr.mk (List.length L) 0 none) 1)) (asI IntKind.u8)) fun n31 =>
                                    obind (Option.bind (cell L19 (Addr.add (Addr.mk (List.length L) 0 none) 2)) (asI IntKind.i64)) fun n32 =>
                                      obind (Option.bind (cell L19 (Addr.add (Addr.mk (List.length L) 0 none) 3)) (asI IntKind.i64)) fun n33 =>
                                        obind (Option.bind (cell L19 (Addr.add (Addr.mk (List.length L) 0 none) 4)) (asI IntKind.i64)) fun n34 =>
                                          lbind
                                            (Proofs.Ytflhogapjmdkaaa.X.f47 k n30 n31 n32 n33 n34 (Value.func (Fn.func 48) #[] #[Value.pointer (some (Addr.mk r1 0 none))])
                                              (Value.func (Fn.func 49) #[] #[Value.pointer (some (Addr.mk r2 0 none))]) (Value.func (Fn.func 50) #[] #[]) L19)
                                            fun v35 L36 => Proofs.Ytflhogapjmdkaaa.X.f27_l4 k j4 l0 r1 r2 l3 n4 (IntKind.wrap IntKind.i64 (n5 + 1)) L36))
  (obind (cut L (Sl.mk (some (Addr.mk r1 0 none)) 277 277) none none none 1) fun l37 =>
    lbind (Proofs.Ytflhogapjmdkaaa.X.f51 k l37 L) fun v38 L39 =>
      obind (tupL v38) fun x40 =>
        uncons x40 fun v41 vs42 =>
          obind (asP v41) fun x43 =>
            uncons vs42 fun v44 vs45 =>
              obind (asS v44) fun s46 =>
                nilL vs45
                  (obind (cut L39 (Sl.mk (some (Addr.mk r2 0 none)) 277 277) none (some 9) none 1) fun l47 =>
                    lbind (Proofs.Ytflhogapjmdkaaa.X.f51 k l47 L39) fun v48 L49 =>
                      obind (tupL v48) fun x50 =>
                        uncons x50 fun v51 vs52 =>
                          obind (asP v51) fun x53 =>
                            uncons vs52 fun v54 vs55 =>
                              obind (asS v54) fun s56 =>
                                nilL vs55
                                  (obind
                                    (stores (L49 ++ [LBlk.cells [Value.slice none 0 0, Value.int IntKind.i64 0] 88 false 0] ++ [LBlk.cells [Value.pointer none] 86 false 0])
                                      (Addr.mk (List.length (L49 ++ [LBlk.cells [Value.slice none 0 0, Value.int IntKind.i64 0] 88 false 0])) 0 none)
                                      [Value.pointer (some (Addr.mk (List.length L49) 0 none))])
                                    fun L57 =>
                                    Proofs.Ytflhogapjmdkaaa.X.f27_l16 k k x43 s46 x53 s56 (List.length (L49 ++ [LBlk.cells [Value.slice none 0 0, Value.int IntKind.i64 0] 88 false 0]))
                                      (List.length (L49 ++ [LBlk.cells [Value.slice none 0 0, Value.int IntKind.i64 0] 88 false 0]))
                                      (List.length (L49 ++ [LBlk.cells [Value.slice none 0 0, Value.int IntKind.i64 0] 88 false 0])) l0 (↑l0.n : Int) 0 L57))) := by kernel_rfl
theorem f27_l16_eq (k : Nat) (j16 : Nat) (p0 : Option Addr) (s1 : ByteArray) (p2 : Option Addr) (s3 : ByteArray) (r4 : Nat) (r5 : Nat) (r6 : Nat) (l7 : Sl) (n8 : Int) (n9 : Int) (L : LHeap) : Proofs.Ytflhogapjmdkaaa.X.f27_l16 k (j16 + 1) p0 s1 p2 s3 r4 r5 r6 l7 n8 n9 L =
  lif (decide (n9 < n8))
  (obind (idx l7 n9 5) fun a10 =>
    obind (Option.bind (cell L (Addr.add a10 0)) (asI IntKind.u8)) fun n11 =>
      obind (Option.bind (cell L (Addr.add a10 1)) (asI IntKind.u8)) fun n12 =>
        obind (Option.bind (cell L (Addr.add a10 2)) (asI IntKind.i64)) fun n13 =>
          obind (Option.bind (cell L (Addr.add a10 3)) (asI IntKind.i64)) fun n14 =>
            obind (Option.bind (cell L (Addr.add a10 4)) (asI IntKind.i64)) fun n15 =>
              obind
                (stores (L ++ [LBlk.cells [Value.int IntKind.u8 0, Value.int IntKind.u8 0, Value.int IntKind.i64 0, Value.int IntKind.i64 0, Value.int IntKind.i64 0] 29 false 0])
                  (Addr.mk (List.length L) 0 none) [Value.int IntKind.u8 n11, Value.int IntKind.u8 n12, Value.int IntKind.i64 n13, Value.int IntKind.i64 n14, Value.int IntKind.i64 n15])
                fun L16 =>
                obind (Option.bind (cell L16 (Addr.add (Addr.mk (List.length L) 0 none) 0)) (asI IntKind.u8)) fun n17 =>
                  obind (Option.bind (cell L16 (Addr.add (Addr.mk (List.length L) 0 none) 1)) (asI IntKind.u8)) fun n18 =>
                    obind (Option.bind (cell L16 (Addr.add (Addr.mk (List.length L) 0 none) 2)) (asI IntKind.i64)) fun n19 =>
                      obind (Option.bind (cell L16 (Addr.add (Addr.mk (List.length L) 0 none) 3)) (asI IntKind.i64)) fun n20 =>
                        obind (Option.bind (cell L16 (Addr.add (Addr.mk (List.length L) 0 none) 4)) (asI IntKind.i64)) fun n21 =>
                          lbindR (Proofs.Ytflhogapjmdkaaa.X.f52 k p0 r5 L16) fun v22 L23 =>
                            obind (Option.bind (cell L23 (Addr.add (Addr.mk (List.length L) 0 none) 0)) (asI IntKind.u8)) fun n24 =>
                              obind (Option.bind (cell L23 (Addr.add (Addr.mk (List.length L) 0 none) 1)) (asI IntKind.u8)) fun n25 =>
                                obind (Option.bind (cell L23 (Addr.add (Addr.mk (List.length L) 0 none) 2)) (asI IntKind.i64)) fun n26 =>
                                  obind (Option.bind (cell L23 (Addr.add (Addr.mk (List.length L) 0 none) 3)) (asI IntKind.i64)) fun n27 =>
                                    obind (Option.bind (cell L23 (Addr.add (Addr.mk (List.length L) 0 none) 4)) (asI IntKind.i64)) fun n28 =>
                                      when
                                        (same (Value.agg #[Value.int IntKind.u8 n17, Value.int IntKind.u8 n18, Value.int IntKind.i64 n19, Value.int IntKind.i64 n20, Value.int IntKind.i64 n21])
                                          (Value.agg #[Value.int IntKind.u8 n24, Value.int IntKind.u8 n25, Value.int IntKind.i64 n26, Value.int IntKind.i64 n27, Value.int IntKind.i64 n28]))
                                        (lbindR (Proofs.Ytflhogapjmdkaaa.X.f52 k p2 r5 L23) fun v29 L30 =>
                                          obind (Option.bind (cell L30 (Addr.add (Addr.mk (List.length L) 0 none) 0)) (asI IntKind.u8)) fun n31 =>
                                            obind (Option.bind (cell L30 (Addr.add (Addr.mk (List.length L) 0 none) 1)) (asI IntKind.u8)) fun n32 =>
                                              obind (Option.bind (cell L30 (Addr.add (Addr.mk (List.length L) 0 none) 2)) (asI IntKind.i64)) fun n33 =>
                                                obind (Option.bind (cell L30 (Addr.add (Addr.mk (List.length L) 0 none) 3)) (asI IntKind.i64)) fun n34 =>
                                                  obind (Option.bind (cell L30 (Addr.add (Addr.mk (List.length L) 0 none) 4)) (asI IntKind.i64)) fun n35 =>
                                                    when
                                                      (same
                                                        (Value.agg
                                                          #[Value.int IntKind.u8 n17, Value.int IntKind.u8 n18, Value.int IntKind.i64 n19, Value.int IntKind.i64 n20, Value.int IntKind.i64 n21])
                                                        (Value.agg
                                                          #[Value.int IntKind.u8 n31, Value.int IntKind.u8 n32, Value.int IntKind.i64 n33, Value.int IntKind.i64 n34, Value.int IntKind.i64 n35]))
                                                      (lbindR
                                                        (Proofs.Ytflhogapjmdkaaa.X.f47 k n17 n18 n19 n20 n21 v22 v29 (Value.func (Fn.func 55) #[] #[Value.pointer (some (Addr.mk r6 0 none))]) L30)
                                                        fun v36 L37 => Proofs.Ytflhogapjmdkaaa.X.f27_l16 k j16 p0 s1 p2 s3 r4 r5 r6 l7 n8 (IntKind.wrap IntKind.i64 (n9 + 1)) L37)))
  (lbind (Proofs.Ytflhogapjmdkaaa.X.f52 k p0 r5 L) fun v38 L39 =>
    lbind (lapp (lcall Proofs.Try.prog Proofs.Ytflhogapjmdkaaa.X.T k) v38 [Value.int IntKind.i64 256] L39) fun v40 L41 =>
      when (fitsS (ByteArray.size s1 + ByteArray.size s3))
        (obind (Option.bind (cell L41 (Addr.mk r4 0 none)) asP) fun x42 =>
          lbind (Proofs.Ytflhogapjmdkaaa.X.f58 k x42 L41) fun v43 L44 =>
            obind (asS v43) fun s45 => when (fitsS (ByteArray.size (s1 ++ s3) + ByteArray.size s45)) (some (LR.ret (Value.string (s1 ++ s3 ++ s45)) L44)))) := by kernel_rfl
theorem f34_eq (k : Nat) (s0 : ByteArray) (n1 : Int) (L : LHeap) : Proofs.Ytflhogapjmdkaaa.X.f34 (k + 1) s0 n1 L =
  lbind (Proofs.Ytflhogapjmdkaaa.X.f62 k s0 n1 L) fun v2 L3 =>
  obind (tupL v2) fun x4 =>
    uncons x4 fun v5 vs6 =>
      obind (asSl v5) fun l7 =>
        uncons vs6 fun v8 vs9 =>
          obind (asI IntKind.i64 v8) fun n10 =>
            uncons vs9 fun v11 vs12 =>
              obind (asI IntKind.i64 v11) fun n13 =>
                nilL vs12
                  (lif (n13 != 0) (some (LR.ret (Value.tuple #[Value.pointer none, Value.string (ByteArray.mk #[]), Value.int IntKind.i64 n13]) L3))
                    (lbind (Proofs.Ytflhogapjmdkaaa.X.f63 k l7 L3) fun v14 L15 =>
                      obind (tupL v14) fun x16 =>
                        uncons x16 fun v17 vs18 =>
                          obind (asP v17) fun x19 =>
                            uncons vs18 fun v20 vs21 =>
                              obind (asI IntKind.i64 v20) fun n22 =>
                                nilL vs21 (obind (subS s0 (some n10) none) fun s23 => some (LR.ret (Value.tuple #[Value.pointer x19, Value.string s23, Value.int IntKind.i64 n22]) L15)))) := by kernel_rfl
theorem f36_eq (k : Nat) (p0 : Option Addr) (L : LHeap) : Proofs.Ytflhogapjmdkaaa.X.f36 (k + 1) p0 L =
  obind p0 fun a1 =>
  obind
    (Option.bind (cell (L ++ [LBlk.cells [Value.int IntKind.u8 0, Value.int IntKind.u8 0, Value.int IntKind.i64 0, Value.int IntKind.i64 0, Value.int IntKind.i64 0] 29 false 0]) (Addr.add a1 1)) asP)
    fun x2 =>
    obind p0 fun a3 =>
      obind
        (Option.bind (cell (L ++ [LBlk.cells [Value.int IntKind.u8 0, Value.int IntKind.u8 0, Value.int IntKind.i64 0, Value.int IntKind.i64 0, Value.int IntKind.i64 0] 29 false 0]) (Addr.add a3 0))
          asP)
        fun x4 =>
        lbindR
          (Proofs.Ytflhogapjmdkaaa.X.f64 k x2 x4
            (L ++ [LBlk.cells [Value.int IntKind.u8 0, Value.int IntKind.u8 0, Value.int IntKind.i64 0, Value.int IntKind.i64 0, Value.int IntKind.i64 0] 29 false 0]))
          fun v5 L6 =>
          obind (tupL v5) fun x7 =>
            uncons x7 fun v8 vs9 =>
              obind (asI IntKind.i64 v8) fun n10 =>
                uncons vs9 fun v11 vs12 =>
                  obind (asI IntKind.i64 v11) fun n13 =>
                    nilL vs12
                      (lif (n13 != 0)
                        (obind (Option.bind (cell L6 (Addr.add (Addr.mk (List.length L) 0 none) 0)) (asI IntKind.u8)) fun n14 =>
                          obind (Option.bind (cell L6 (Addr.add (Addr.mk (List.length L) 0 none) 1)) (asI IntKind.u8)) fun n15 =>
                            obind (Option.bind (cell L6 (Addr.add (Addr.mk (List.length L) 0 none) 2)) (asI IntKind.i64)) fun n16 =>
                              obind (Option.bind (cell L6 (Addr.add (Addr.mk (List.length L) 0 none) 3)) (asI IntKind.i64)) fun n17 =>
                                obind (Option.bind (cell L6 (Addr.add (Addr.mk (List.length L) 0 none) 4)) (asI IntKind.i64)) fun n18 =>
                                  obind
                                    (stores L6 (Addr.mk (List.length L) 0 none)
                                      [Value.int IntKind.u8 n14, Value.int IntKind.u8 n15, Value.int IntKind.i64 n16, Value.int IntKind.i64 n17, Value.int IntKind.i64 n18])
                                    fun L19 =>
                                    obind (Option.bind (cell L19 (Addr.add (Addr.mk (List.length L) 0 none) 0)) (asI IntKind.u8)) fun n20 =>
                                      obind (Option.bind (cell L19 (Addr.add (Addr.mk (List.length L) 0 none) 1)) (asI IntKind.u8)) fun n21 =>
                                        obind (Option.bind (cell L19 (Addr.add (Addr.mk (List.length L) 0 none) 2)) (asI IntKind.i64)) fun n22 =>
                                          obind (Option.bind (cell L19 (Addr.add (Addr.mk (List.length L) 0 none) 3)) (asI IntKind.i64)) fun n23 =>
                                            obind (Option.bind (cell L19 (Addr.add (Addr.mk (List.length L) 0 none) 4)) (asI IntKind.i64)) fun n24 =>
                                              some
                                                (LR.ret
                                                  (Value.tuple
                                                    #[Value.agg #[Value.int IntKind.u8 n20, Value.int IntKind.u8 n21, Value.int IntKind.i64 n22, Value.int IntKind.i64 n23, Value.int IntKind.i64 n24],
                                                      Value.bool false, Value.int IntKind.i64 n13])
                                                  L19))
                        (lif (n10 == 256)
                          (obind (Option.bind (cell L6 (Addr.add (Addr.mk (List.length L) 0 none) 0)) (asI IntKind.u8)) fun n25 =>
                            obind (Option.bind (cell L6 (Addr.add (Addr.mk (List.length L) 0 none) 1)) (asI IntKind.u8)) fun n26 =>
                              obind (Option.bind (cell L6 (Addr.add (Addr.mk (List.length L) 0 none) 2)) (asI IntKind.i64)) fun n27 =>
                                obind (Option.bind (cell L6 (Addr.add (Addr.mk (List.length L) 0 none) 3)) (asI IntKind.i64)) fun n28 =>
                                  obind (Option.bind (cell L6 (Addr.add (Addr.mk (List.length L) 0 none) 4)) (asI IntKind.i64)) fun n29 =>
                                    obind
                                      (stores L6 (Addr.mk (List.length L) 0 none)
                                        [Value.int IntKind.u8 n25, Value.int IntKind.u8 n26, Value.int IntKind.i64 n27, Value.int IntKind.i64 n28, Value.int IntKind.i64 n29])
                                      fun L30 =>
                                      obind (Option.bind (cell L30 (Addr.add (Addr.mk (List.length L) 0 none) 0)) (asI IntKind.u8)) fun n31 =>
                                        obind (Option.bind (cell L30 (Addr.add (Addr.mk (List.length L) 0 none) 1)) (asI IntKind.u8)) fun n32 =>
                                          obind (Option.bind (cell L30 (Addr.add (Addr.mk (List.length L) 0 none) 2)) (asI IntKind.i64)) fun n33 =>
                                            obind (Option.bind (cell L30 (Addr.add (Addr.mk (List.length L) 0 none) 3)) (asI IntKind.i64)) fun n34 =>
                                              obind (Option.bind (cell L30 (Addr.add (Addr.mk (List.length L) 0 none) 4)) (asI IntKind.i64)) fun n35 =>
                                                some
                                                  (LR.ret
                                                    (Value.tuple
                                                      #[Value.agg
                                                          #[Value.int IntKind.u8 n31, Value.int IntKind.u8 n32, Value.int IntKind.i64 n33, Value.int IntKind.i64 n34, Value.int IntKind.i64 n35],
                                                        Value.bool false, Value.int IntKind.i64 n13])
                                                    L30))
                          (lif (decide (n10 < 256))
                            (obind
                              (stores L6 (Addr.mk (List.length L) 0 none)
                                [Value.int IntKind.u8 1, Value.int IntKind.u8 (IntKind.wrap IntKind.u8 n10), Value.int IntKind.i64 0, Value.int IntKind.i64 0, Value.int IntKind.i64 0])
                              fun L36 =>
                              obind (Option.bind (cell L36 (Addr.add (Addr.mk (List.length L) 0 none) 0)) (asI IntKind.u8)) fun n37 =>
                                obind (Option.bind (cell L36 (Addr.add (Addr.mk (List.length L) 0 none) 1)) (asI IntKind.u8)) fun n38 =>
                                  obind (Option.bind (cell L36 (Addr.add (Addr.mk (List.length L) 0 none) 2)) (asI IntKind.i64)) fun n39 =>
                                    obind (Option.bind (cell L36 (Addr.add (Addr.mk (List.length L) 0 none) 3)) (asI IntKind.i64)) fun n40 =>
                                      obind (Option.bind (cell L36 (Addr.add (Addr.mk (List.length L) 0 none) 4)) (asI IntKind.i64)) fun n41 =>
                                        some
                                          (LR.ret
                                            (Value.tuple
                                              #[Value.agg #[Value.int IntKind.u8 n37, Value.int IntKind.u8 n38, Value.int IntKind.i64 n39, Value.int IntKind.i64 n40, Value.int IntKind.i64 n41],
                                                Value.bool true, Value.int IntKind.i64 0])
                                            L36))
                            (lif (decide (n10 ≤ 260))
                              (obind
                                (stores L6 (Addr.mk (List.length L) 0 none)
                                  [Value.int IntKind.u8 3, Value.int IntKind.u8 0, Value.int IntKind.i64 0, Value.int IntKind.i64 0, Value.int IntKind.i64 (IntKind.wrap IntKind.i64 (n10 - 257))])
                                fun L42 =>
                                lbind (Proofs.Ytflhogapjmdkaaa.X.f66 k p0 L42) fun v43 L44 =>
                                  obind (tupL v43) fun x45 =>
                                    uncons x45 fun v46 vs47 =>
                                      obind (asI IntKind.i64 v46) fun n48 =>
                                        uncons vs47 fun v49 vs50 =>
                                          obind (asI IntKind.i64 v49) fun n51 =>
                                            nilL vs50
                                              (obind (stores L44 (Addr.add (Addr.mk (List.length L) 0 none) 2) [Value.int IntKind.i64 n48]) fun L52 =>
                                                obind (Option.bind (cell L52 (Addr.add (Addr.mk (List.length L) 0 none) 0)) (asI IntKind.u8)) fun n53 =>
                                                  obind (Option.bind (cell L52 (Addr.add (Addr.mk (List.length L) 0 none) 1)) (asI IntKind.u8)) fun n54 =>
                                                    obind (Option.bind (cell L52 (Addr.add (Addr.mk (List.length L) 0 none) 2)) (asI IntKind.i64)) fun n55 =>
                                                      obind (Option.bind (cell L52 (Addr.add (Addr.mk (List.length L) 0 none) 3)) (asI IntKind.i64)) fun n56 =>
                                                        obind (Option.bind (cell L52 (Addr.add (Addr.mk (List.length L) 0 none) 4)) (asI IntKind.i64)) fun n57 =>
                                                          obind
                                                            (stores L52 (Addr.mk (List.length L) 0 none)
                                                              [Value.int IntKind.u8 n53, Value.int IntKind.u8 n54, Value.int IntKind.i64 n55, Value.int IntKind.i64 n56, Value.int IntKind.i64 n57])
                                                            fun L58 =>
                                                            obind (Option.bind (cell L58 (Addr.add (Addr.mk (List.length L) 0 none) 0)) (asI IntKind.u8)) fun n59 =>
                                                              obind (Option.bind (cell L58 (Addr.add (Addr.mk (List.length L) 0 none) 1)) (asI IntKind.u8)) fun n60 =>
                                                                obind (Option.bind (cell L58 (Addr.add (Addr.mk (List.length L) 0 none) 2)) (asI IntKind.i64)) fun n61 =>
                                                                  obind (Option.bind (cell L58 (Addr.add (Addr.mk (List.length L) 0 none) 3)) (asI IntKind.i64)) fun n62 =>
                                                                    obind (Option.bind (cell L58 (Addr.add (Addr.mk (List.length L) 0 none) 4)) (asI IntKind.i64)) fun n63 =>
                                                                      some
                                                                        (LR.ret
                                                                          (Value.tuple
                                                                            #[Value.agg
                                                                                #[Value.int IntKind.u8 n59, Value.int IntKind.u8 n60, Value.int IntKind.i64 n61, Value.int IntKind.i64 n62,
                                                                                  Value.int IntKind.i64 n63],
                                                                              Value.bool true, Value.int IntKind.i64 n51])
                                                                          L58)))
                              (obind (stores L6 (Addr.add (Addr.mk (List.length L) 0 none) 0) [Value.int IntKind.u8 2]) fun L64 =>
                                lbind (Proofs.Ytflhogapjmdkaaa.X.f65 k p0 (IntKind.wrap IntKind.i64 (n10 - 260)) L64) fun v65 L66 =>
                                  obind (tupL v65) fun x67 =>
                                    uncons x67 fun v68 vs69 =>
                                      obind (asI IntKind.i64 v68) fun n70 =>
                                        uncons vs69 fun v71 vs72 =>
                                          obind (asI IntKind.i64 v71) fun n73 =>
                                            nilL vs72
                                              (obind (stores L66 (Addr.add (Addr.mk (List.length L) 0 none) 3) [Value.int IntKind.i64 n70]) fun L74 =>
                                                lif (n73 != 0)
                                                  (obind (Option.bind (cell L74 (Addr.add (Addr.mk (List.length L) 0 none) 0)) (asI IntKind.u8)) fun n75 =>
                                                    obind (Option.bind (cell L74 (Addr.add (Addr.mk (List.length L) 0 none) 1)) (asI IntKind.u8)) fun n76 =>
                                                      obind (Option.bind (cell L74 (Addr.add (Addr.mk (List.length L) 0 none) 2)) (asI IntKind.i64)) fun n77 =>
                                                        obind (Option.bind (cell L74 (Addr.add (Addr.mk (List.length L) 0 none) 3)) (asI IntKind.i64)) fun n78 =>
                                                          obind (Option.bind (cell L74 (Addr.add (Addr.mk (List.length L) 0 none) 4)) (asI IntKind.i64)) fun n79 =>
                                                            obind
                                                              (stores L74 (Addr.mk (List.length L) 0 none)
                                                                [Value.int IntKind.u8 n75, Value.int IntKind.u8 n76, Value.int IntKind.i64 n77, Value.int IntKind.i64 n78, Value.int IntKind.i64 n79])
                                                              fun L80 =>
                                                              obind (Option.bind (cell L80 (Addr.add (Addr.mk (List.length L) 0 none) 0)) (asI IntKind.u8)) fun n81 =>
                                                                obind (Option.bind (cell L80 (Addr.add (Addr.mk (List.length L) 0 none) 1)) (asI IntKind.u8)) fun n82 =>
                                                                  obind (Option.bind (cell L80 (Addr.add (Addr.mk (List.length L) 0 none) 2)) (asI IntKind.i64)) fun n83 =>
                                                                    obind (Option.bind (cell L80 (Addr.add (Addr.mk (List.length L) 0 none) 3)) (asI IntKind.i64)) fun n84 =>
                                                                      obind (Option.bind (cell L80 (Addr.add (Addr.mk (List.length L) 0 none) 4)) (asI IntKind.i64)) fun n85 =>
                                                                        some
                                                                          (LR.ret
                                                                            (Value.tuple
                                                                              #[Value.agg
                                                                                  #[Value.int IntKind.u8 n81, Value.int IntKind.u8 n82, Value.int IntKind.i64 n83, Value.int IntKind.i64 n84,
                                                                                    Value.int IntKind.i64 n85],
                                                                                Value.bool false, Value.int IntKind.i64 n73])
                                                                            L80))
                                                  (lbind (Proofs.Ytflhogapjmdkaaa.X.f66 k p0 L74) fun v86 L87 =>
                                                    obind (tupL v86) fun x88 =>
                                                      uncons x88 fun v89 vs90 =>
                                                        obind (asI IntKind.i64 v89) fun n91 =>
                                                          uncons vs90 fun v92 vs93 =>
                                                            obind (asI IntKind.i64 v92) fun n94 =>
                                                              nilL vs93
                                                                (obind (stores L87 (Addr.add (Addr.mk (List.length L) 0 none) 2) [Value.int IntKind.i64 n91]) fun L95 =>
                                                                  obind (Option.bind (cell L95 (Addr.add (Addr.mk (List.length L) 0 none) 0)) (asI IntKind.u8)) fun n96 =>
                                                                    obind (Option.bind (cell L95 (Addr.add (Addr.mk (List.length L) 0 none) 1)) (asI IntKind.u8)) fun n97 =>
                                                                      obind (Option.bind (cell L95 (Addr.add (Addr.mk (List.length L) 0 none) 2)) (asI IntKind.i64)) fun n98 =>
                                                                        obind (Option.bind (cell L95 (Addr.add (Addr.mk (List.length L) 0 none) 3)) (asI IntKind.i64)) fun n99 =>
                                                                          obind (Option.bind (cell L95 (Addr.add (Addr.mk (List.length L) 0 none) 4)) (asI IntKind.i64)) fun n100 =>
                                                                            obind
                                                                              (stores L95 (Addr.mk (List.length L) 0 none)
                                                                                [Value.int IntKind.u8 n96, Value.int IntKind.u8 n97, Value.int IntKind.i64 n98, Value.int IntKind.i64 n99,
                                                                                  Value.int IntKind.i64 n100])
                                                                              fun L101 =>
                                                                              obind (Option.bind (cell L101 (Addr.add (Addr.mk (List.length L) 0 none) 0)) (asI IntKind.u8)) fun n102 =>
                                                                                obind (Option.bind (cell L101 (Addr.add (Addr.mk (List.length L) 0 none) 1)) (asI IntKind.u8)) fun n103 =>
                                                                                  obind (Option.bind (cell L101 (Addr.add (Addr.mk (List.length L) 0 none) 2)) (asI IntKind.i64)) fun n104 =>
                                                                                    obind (Option.bind (cell L101 (Addr.add (Addr.mk (List.length L) 0 none) 3)) (asI IntKind.i64)) fun n105 =>
                                                                                      obind (Option.bind (cell L101 (Addr.add (Addr.mk (List.length L) 0 none) 4)) (asI IntKind.i64)) fun n106 =>
                                                                                        some
                                                                                          (LR.ret
                                                                                            (Value.tuple
                                                                                              #[Value.agg
                                                                                                  #[Value.int IntKind.u8 n102, Value.int IntKind.u8 n103, Value.int IntKind.i64 n104,
                                                                                                    Value.int IntKind.i64 n105, Value.int IntKind.i64 n106],
                                                                                                Value.bool true, Value.int IntKind.i64 n94])
                                                                                            L101))))))))) := by kernel_rfl
theorem f46_eq (k : Nat) (n0 : Int) (L : LHeap) : Proofs.Ytflhogapjmdkaaa.X.f46 (k + 1) n0 L =
  lif (n0 != 0) (some (LR.pan (Value.iface 24 (Value.int IntKind.i64 n0)) L)) (some (LR.ret (Value.tuple #[]) L)) := by kernel_rfl
theorem f47_eq (k : Nat) (n0 : Int) (n1 : Int) (n2 : Int) (n3 : Int) (n4 : Int) (v5 : Value) (v6 : Value) (v7 : Value) (L : LHeap) : Proofs.Ytflhogapjmdkaaa.X.f47 (k + 1) n0 n1 n2 n3 n4 v5 v6 v7 L =
  obind
  (Option.bind
    (cell (L ++ [LBlk.cells [Value.int IntKind.u8 n0, Value.int IntKind.u8 n1, Value.int IntKind.i64 n2, Value.int IntKind.i64 n3, Value.int IntKind.i64 n4] 29 false 0])
      (Addr.add (Addr.mk (List.length L) 0 none) 0))
    (asI IntKind.u8))
  fun n8 =>
  lif (n8 == 1)
    (obind
      (Option.bind
        (cell (L ++ [LBlk.cells [Value.int IntKind.u8 n0, Value.int IntKind.u8 n1, Value.int IntKind.i64 n2, Value.int IntKind.i64 n3, Value.int IntKind.i64 n4] 29 false 0])
          (Addr.add (Addr.mk (List.length L) 0 none) 1))
        (asI IntKind.u8))
      fun n9 =>
      lbind
        (lapp (lcall Proofs.Try.prog Proofs.Ytflhogapjmdkaaa.X.T k) v5 [Value.int IntKind.i64 (IntKind.wrap IntKind.i64 n9)]
          (L ++ [LBlk.cells [Value.int IntKind.u8 n0, Value.int IntKind.u8 n1, Value.int IntKind.i64 n2, Value.int IntKind.i64 n3, Value.int IntKind.i64 n4] 29 false 0]))
        fun v10 L11 => some (LR.ret (Value.tuple #[]) L11))
    (lif (n8 == 2)
      (obind
        (Option.bind
          (cell (L ++ [LBlk.cells [Value.int IntKind.u8 n0, Value.int IntKind.u8 n1, Value.int IntKind.i64 n2, Value.int IntKind.i64 n3, Value.int IntKind.i64 n4] 29 false 0])
            (Addr.add (Addr.mk (List.length L) 0 none) 3))
          (asI IntKind.i64))
        fun n12 =>
        lbind
          (Proofs.Ytflhogapjmdkaaa.X.f56 k (IntKind.wrap IntKind.u64 n12)
            (L ++ [LBlk.cells [Value.int IntKind.u8 n0, Value.int IntKind.u8 n1, Value.int IntKind.i64 n2, Value.int IntKind.i64 n3, Value.int IntKind.i64 n4] 29 false 0]))
          fun v13 L14 =>
          obind (asI IntKind.i64 v13) fun n15 =>
            lbind (lapp (lcall Proofs.Try.prog Proofs.Ytflhogapjmdkaaa.X.T k) v5 [Value.int IntKind.i64 (IntKind.wrap IntKind.i64 (260 + n15))] L14) fun v16 L17 =>
              obind (Option.bind (cell L17 (Addr.add (Addr.mk (List.length L) 0 none) 3)) (asI IntKind.i64)) fun n18 =>
                lbind (lapp (lcall Proofs.Try.prog Proofs.Ytflhogapjmdkaaa.X.T k) v7 [Value.int IntKind.i64 n18] L17) fun v19 L20 =>
                  obind (Option.bind (cell L20 (Addr.add (Addr.mk (List.length L) 0 none) 2)) (asI IntKind.i64)) fun n21 =>
                    lbind (Proofs.Ytflhogapjmdkaaa.X.f56 k (IntKind.wrap IntKind.u64 (IntKind.wrap IntKind.i64 (n21 - 3))) L20) fun v22 L23 =>
                      obind (asI IntKind.i64 v22) fun n24 =>
                        lbind (lapp (lcall Proofs.Try.prog Proofs.Ytflhogapjmdkaaa.X.T k) v6 [Value.int IntKind.i64 n24] L23) fun v25 L26 =>
                          lbind (lapp (lcall Proofs.Try.prog Proofs.Ytflhogapjmdkaaa.X.T k) v7 [Value.int IntKind.i64 (IntKind.wrap IntKind.i64 (n21 - 3))] L26) fun v27 L28 =>
                            some (LR.ret (Value.tuple #[]) L28))
      (lif (n8 == 3)
        (obind
          (Option.bind
            (cell (L ++ [LBlk.cells [Value.int IntKind.u8 n0, Value.int IntKind.u8 n1, Value.int IntKind.i64 n2, Value.int IntKind.i64 n3, Value.int IntKind.i64 n4] 29 false 0])
              (Addr.add (Addr.mk (List.length L) 0 none) 4))
            (asI IntKind.i64))
          fun n29 =>
          lbind
            (lapp (lcall Proofs.Try.prog Proofs.Ytflhogapjmdkaaa.X.T k) v5 [Value.int IntKind.i64 (IntKind.wrap IntKind.i64 (257 + n29))]
              (L ++ [LBlk.cells [Value.int IntKind.u8 n0, Value.int IntKind.u8 n1, Value.int IntKind.i64 n2, Value.int IntKind.i64 n3, Value.int IntKind.i64 n4] 29 false 0]))
            fun v30 L31 =>
            obind (Option.bind (cell L31 (Addr.add (Addr.mk (List.length L) 0 none) 2)) (asI IntKind.i64)) fun n32 =>
              lbind (Proofs.Ytflhogapjmdkaaa.X.f56 k (IntKind.wrap IntKind.u64 (IntKind.wrap IntKind.i64 (n32 - 3))) L31) fun v33 L34 =>
                obind (asI IntKind.i64 v33) fun n35 =>
                  lbind (lapp (lcall Proofs.Try.prog Proofs.Ytflhogapjmdkaaa.X.T k) v6 [Value.int IntKind.i64 n35] L34) fun v36 L37 =>
                    lbind (lapp (lcall Proofs.Try.prog Proofs.Ytflhogapjmdkaaa.X.T k) v7 [Value.int IntKind.i64 (IntKind.wrap IntKind.i64 (n32 - 3))] L37) fun v38 L39 =>
                      some (LR.ret (Value.tuple #[]) L39))
        (obind
          (Option.bind
            (cell (L ++ [LBlk.cells [Value.int IntKind.u8 n0, Value.int IntKind.u8 n1, Value.int IntKind.i64 n2, Value.int IntKind.i64 n3, Value.int IntKind.i64 n4] 29 false 0])
              (Addr.add (Addr.mk (List.length L) 0 none) 2))
            (asI IntKind.i64))
          fun n40 =>
          lbind
            (Proofs.Ytflhogapjmdkaaa.X.f56 k (IntKind.wrap IntKind.u64 (IntKind.wrap IntKind.i64 (n40 - 3)))
              (L ++ [LBlk.cells [Value.int IntKind.u8 n0, Value.int IntKind.u8 n1, Value.int IntKind.i64 n2, Value.int IntKind.i64 n3, Value.int IntKind.i64 n4] 29 false 0]))
            fun v41 L42 =>
            obind (asI IntKind.i64 v41) fun n43 =>
              lbind (lapp (lcall Proofs.Try.prog Proofs.Ytflhogapjmdkaaa.X.T k) v6 [Value.int IntKind.i64 n43] L42) fun v44 L45 =>
                lbind (lapp (lcall Proofs.Try.prog Proofs.Ytflhogapjmdkaaa.X.T k) v7 [Value.int IntKind.i64 (IntKind.wrap IntKind.i64 (n40 - 3))] L45) fun v46 L47 =>
                  some (LR.ret (Value.tuple #[]) L47)))) := by kernel_rfl
theorem f48_eq (k : Nat) (n0 : Int) (r1 : Nat) (L : LHeap) : Proofs.Ytflhogapjmdkaaa.X.f48 (k + 1) n0 r1 L =
  when (decide (0 ≤ n0))
  (when (decide (n0 < 277))
    (obind (Option.bind (cell L (Addr.add (Addr.mk r1 0 none) (Int.toNat n0 * 1))) (asI IntKind.i64)) fun n2 =>
      when (decide (0 ≤ n0))
        (when (decide (n0 < 277))
          (obind (stores L (Addr.add (Addr.mk r1 0 none) (Int.toNat n0 * 1)) [Value.int IntKind.i64 (IntKind.wrap IntKind.i64 (n2 + 1))]) fun L3 => some (LR.ret (Value.tuple #[]) L3))))) := by kernel_rfl
theorem f49_eq (k : Nat) (n0 : Int) (r1 : Nat) (L : LHeap) : Proofs.Ytflhogapjmdkaaa.X.f49 (k + 1) n0 r1 L =
  when (decide (0 ≤ n0))
  (when (decide (n0 < 277))
    (obind (Option.bind (cell L (Addr.add (Addr.mk r1 0 none) (Int.toNat n0 * 1))) (asI IntKind.i64)) fun n2 =>
      when (decide (0 ≤ n0))
        (when (decide (n0 < 277))
          (obind (stores L (Addr.add (Addr.mk r1 0 none) (Int.toNat n0 * 1)) [Value.int IntKind.i64 (IntKind.wrap IntKind.i64 (n2 + 1))]) fun L3 => some (LR.ret (Value.tuple #[]) L3))))) := by kernel_rfl
theorem f50_eq (k : Nat) (n0 : Int) (L : LHeap) : Proofs.Ytflhogapjmdkaaa.X.f50 (k + 1) n0 L =
  some (LR.ret (Value.tuple #[]) L) := by kernel_rfl
theorem f51_eq (k : Nat) (l0 : Sl) (L : LHeap) : Proofs.Ytflhogapjmdkaaa.X.f51 (k + 1) l0 L =
  lbind (Proofs.Ytflhogapjmdkaaa.X.f75 k l0 L) fun v1 L2 =>
  obind (tupL v1) fun x3 =>
    uncons x3 fun v4 vs5 =>
      obind (asSl v4) fun l6 =>
        uncons vs5 fun v7 vs8 =>
          obind (asI IntKind.i64 v7) fun n9 =>
            nilL vs8
              (lbind (Proofs.Ytflhogapjmdkaaa.X.f46 k n9 L2) fun v10 L11 =>
                lbind (Proofs.Ytflhogapjmdkaaa.X.f76 k l6 L11) fun v12 L13 =>
                  obind (tupL v12) fun x14 =>
                    uncons x14 fun v15 vs16 =>
                      obind (asS v15) fun s17 =>
                        uncons vs16 fun v18 vs19 =>
                          obind (asI IntKind.i64 v18) fun n20 =>
                            nilL vs19
                              (lbind (Proofs.Ytflhogapjmdkaaa.X.f46 k n20 L13) fun v21 L22 =>
                                lbind (Proofs.Ytflhogapjmdkaaa.X.f63 k l6 L22) fun v23 L24 =>
                                  obind (tupL v23) fun x25 =>
                                    uncons x25 fun v26 vs27 =>
                                      obind (asP v26) fun x28 =>
                                        uncons vs27 fun v29 vs30 =>
                                          obind (asI IntKind.i64 v29) fun n31 =>
                                            nilL vs30 (lbind (Proofs.Ytflhogapjmdkaaa.X.f46 k n31 L24) fun v32 L33 => some (LR.ret (Value.tuple #[Value.pointer x28, Value.string s17]) L33)))) := by kernel_rfl
theorem f52_eq (k : Nat) (p0 : Option Addr) (r1 : Nat) (L : LHeap) : Proofs.Ytflhogapjmdkaaa.X.f52 (k + 1) p0 r1 L =
  some (LR.ret (Value.func (Fn.func 53) #[] #[Value.pointer (some (Addr.mk (List.length L) 0 none)), Value.pointer (some (Addr.mk r1 0 none))]) (L ++ [LBlk.cells [Value.pointer p0] 58 false 0])) := by kernel_rfl
theorem f53_eq (k : Nat) (n0 : Int) (r1 : Nat) (r2 : Nat) (L : LHeap) : Proofs.Ytflhogapjmdkaaa.X.f53 (k + 1) n0 r1 r2 L =
  obind (Option.bind (cell L (Addr.mk r1 0 none)) asP) fun x3 =>
  obind (Option.bind (cell L (Addr.mk r2 0 none)) asP) fun x4 =>
    lbind (Proofs.Ytflhogapjmdkaaa.X.f54 k x3 x4 n0 L) fun v5 L6 => obind (asI IntKind.i64 v5) fun n7 => lbind (Proofs.Ytflhogapjmdkaaa.X.f46 k n7 L6) fun v8 L9 => some (LR.ret (Value.tuple #[]) L9) := by kernel_rfl
theorem f55_eq (k : Nat) (n0 : Int) (r1 : Nat) (L : LHeap) : Proofs.Ytflhogapjmdkaaa.X.f55 (k + 1) n0 r1 L =
  lbind (Proofs.Ytflhogapjmdkaaa.X.f56 k (IntKind.wrap IntKind.u64 n0) L) fun v2 L3 =>
  obind (asI IntKind.i64 v2) fun n4 =>
    lif (decide (n4 > 1))
      (obind (Option.bind (cell L3 (Addr.mk r1 0 none)) asP) fun x5 =>
        when (!decide (IntKind.wrap IntKind.i64 (n4 - 1) < 0))
          (lbindR
            (Proofs.Ytflhogapjmdkaaa.X.f57 k x5
              (bitop BinOp.and IntKind.u32 (IntKind.wrap IntKind.u32 n0) (IntKind.wrap IntKind.u32 (IntKind.wrap IntKind.u32 (1 * 2 ^ min (Int.toNat (IntKind.wrap IntKind.i64 (n4 - 1))) 32) - 1)))
              (IntKind.wrap IntKind.i64 (n4 - 1)) L3)
            fun v6 L7 => obind (asI IntKind.i64 v6) fun n8 => some (LR.ret (Value.tuple #[]) L7)))
      (some (LR.ret (Value.tuple #[]) L3)) := by kernel_rfl
theorem f56_eq (k : Nat) (n0 : Int) (L : LHeap) : Proofs.Ytflhogapjmdkaaa.X.f56 (k + 1) n0 L =
  lbind (Proofs.Ytflhogapjmdkaaa.X.f78 k n0 L) fun v1 L2 => obind (asI IntKind.i64 v1) fun n3 => some (LR.ret (Value.int IntKind.i64 n3) L2) := by kernel_rfl
/-- slots 0, 1, 4, 5, 7, 8 -/
noncomputable def f62_l4 (k : Nat) (j4 : Nat) (s18 : ByteArray) (n19 : Int) (l20 : Sl) (n21 : Int) (n22 : Int) (b23 : Bool) (L : LHeap) : R :=
  loopAt Proofs.Try.prog Proofs.Ytflhogapjmdkaaa.X.T 62 k [1, 1, 1, 0, 0] [] j4
  [(0, Value.string s18), (1, Value.int IntKind.i64 n19), (4, Value.slice l20.a l20.n l20.c), (5, Value.int IntKind.i64 n21), (7, Value.int IntKind.i64 n22), (8, Value.bool b23)] L
theorem f62_eq (k : Nat) (s0 : ByteArray) (n1 : Int) (L : LHeap) : Proofs.Ytflhogapjmdkaaa.X.f62 (k + 1) s0 n1 L =
  lif (decide (n1 < 0)) (some (LR.ret (Value.tuple #[Value.slice none 0 0, Value.int IntKind.i64 0, Value.int IntKind.i64 1]) L))
  (Proofs.Ytflhogapjmdkaaa.X.f62_l4 k k s0 n1 (Sl.mk none 0 0) 0 (-1) true L) := by kernel_rfl
theorem f62_l4_eq (k : Nat) (j4 : Nat) (s0 : ByteArray) (n1 : Int) (l2 : Sl) (n3 : Int) (n4 : Int) (b5 : Bool) (L : LHeap) : Proofs.Ytflhogapjmdkaaa.X.f62_l4 k (j4 + 1) s0 n1 l2 n3 n4 b5 L =
  lif (decide ((↑l2.n : Int) < n1))
  (lif (n3 == (↑(ByteArray.size s0) : Int)) (some (LR.ret (Value.tuple #[Value.slice none 0 0, Value.int IntKind.i64 0, Value.int IntKind.i64 4]) L))
    (obind (byteAt s0 n3) fun n6 =>
      obind (byteAt s0 n3) fun n7 =>
        lif (IntKind.wrap IntKind.i64 (Int.fdiv n6 16) == n4)
          (lif (!b5) (some (LR.ret (Value.tuple #[Value.slice none 0 0, Value.int IntKind.i64 0, Value.int IntKind.i64 4]) L))
            (lif (decide (IntKind.wrap IntKind.i64 (IntKind.wrap IntKind.i64 (bitop BinOp.and IntKind.u8 n7 15) + 1) > IntKind.wrap IntKind.i64 (n1 - (↑l2.n : Int))))
              (some (LR.ret (Value.tuple #[Value.slice none 0 0, Value.int IntKind.i64 0, Value.int IntKind.i64 4]) L))
              (lbind
                (Proofs.Ytflhogapjmdkaaa.X.f79 k (Sl.mk (some (Addr.mk (List.length L) 0 none)) 1 1) (IntKind.wrap IntKind.i64 (IntKind.wrap IntKind.i64 (bitop BinOp.and IntKind.u8 n7 15) + 1))
                  (L ++ [LBlk.cells [Value.int IntKind.i64 (IntKind.wrap IntKind.i64 (Int.fdiv n6 16))] 3 false 0]))
                fun v8 L9 =>
                obind (asSl v8) fun l10 =>
                  obind (srcOf L9 Proofs.Try.prog.types[3].size l10.n (Value.slice l10.a l10.n l10.c)) fun x11 =>
                    obind (app L9 3 Proofs.Try.prog.types[3].size Proofs.Try.prog.types[3].bytes l2 l10.n x11) fun x12 =>
                      Proofs.Ytflhogapjmdkaaa.X.f62_l4 k j4 s0 n1 x12.fst (IntKind.wrap IntKind.i64 (n3 + 1)) (IntKind.wrap IntKind.i64 (Int.fdiv n6 16))
                        (IntKind.wrap IntKind.i64 (IntKind.wrap IntKind.i64 (bitop BinOp.and IntKind.u8 n7 15) + 1) == 16) x12.snd)))
          (lif (decide (IntKind.wrap IntKind.i64 (IntKind.wrap IntKind.i64 (bitop BinOp.and IntKind.u8 n7 15) + 1) > IntKind.wrap IntKind.i64 (n1 - (↑l2.n : Int))))
            (some (LR.ret (Value.tuple #[Value.slice none 0 0, Value.int IntKind.i64 0, Value.int IntKind.i64 4]) L))
            (lbind
              (Proofs.Ytflhogapjmdkaaa.X.f79 k (Sl.mk (some (Addr.mk (List.length L) 0 none)) 1 1) (IntKind.wrap IntKind.i64 (IntKind.wrap IntKind.i64 (bitop BinOp.and IntKind.u8 n7 15) + 1))
                (L ++ [LBlk.cells [Value.int IntKind.i64 (IntKind.wrap IntKind.i64 (Int.fdiv n6 16))] 3 false 0]))
              fun v13 L14 =>
              obind (asSl v13) fun l15 =>
                obind (srcOf L14 Proofs.Try.prog.types[3].size l15.n (Value.slice l15.a l15.n l15.c)) fun x16 =>
                  obind (app L14 3 Proofs.Try.prog.types[3].size Proofs.Try.prog.types[3].bytes l2 l15.n x16) fun x17 =>
                    Proofs.Ytflhogapjmdkaaa.X.f62_l4 k j4 s0 n1 x17.fst (IntKind.wrap IntKind.i64 (n3 + 1)) (IntKind.wrap IntKind.i64 (Int.fdiv n6 16))
                      (IntKind.wrap IntKind.i64 (IntKind.wrap IntKind.i64 (bitop BinOp.and IntKind.u8 n7 15) + 1) == 16) x17.snd))))
  (some (LR.ret (Value.tuple #[Value.slice l2.a l2.n l2.c, Value.int IntKind.i64 n3, Value.int IntKind.i64 0]) L)) := by kernel_rfl
theorem f65_eq (k : Nat) (p0 : Option Addr) (n1 : Int) (L : LHeap) : Proofs.Ytflhogapjmdkaaa.X.f65 (k + 1) p0 n1 L =
  lif (decide (n1 < 2)) (some (LR.ret (Value.tuple #[Value.int IntKind.i64 n1, Value.int IntKind.i64 0]) L))
  (obind p0 fun a2 =>
    obind (Option.bind (cell L (Addr.add a2 0)) asP) fun x3 =>
      lbind (Proofs.Ytflhogapjmdkaaa.X.f84 k x3 (IntKind.wrap IntKind.i64 (n1 - 1)) L) fun v4 L5 =>
        obind (tupL v4) fun x6 =>
          uncons x6 fun v7 vs8 =>
            obind (asI IntKind.u32 v7) fun n9 =>
              uncons vs8 fun v10 vs11 =>
                obind (asI IntKind.i64 v10) fun n12 =>
                  nilL vs11
                    (when (!decide (IntKind.wrap IntKind.i64 (n1 - 1) < 0))
                      (some
                        (LR.ret
                          (Value.tuple
                            #[Value.int IntKind.i64
                                (bitop BinOp.or IntKind.i64 (IntKind.wrap IntKind.i64 (1 * 2 ^ min (Int.toNat (IntKind.wrap IntKind.i64 (n1 - 1))) 64)) (IntKind.wrap IntKind.i64 n9)),
                              Value.int IntKind.i64 n12])
                          L5)))) := by kernel_rfl
theorem f66_eq (k : Nat) (p0 : Option Addr) (L : LHeap) : Proofs.Ytflhogapjmdkaaa.X.f66 (k + 1) p0 L =
  obind p0 fun a1 =>
  obind (Option.bind (cell L (Addr.add a1 2)) asP) fun x2 =>
    obind p0 fun a3 =>
      obind (Option.bind (cell L (Addr.add a3 0)) asP) fun x4 =>
        lbindR (Proofs.Ytflhogapjmdkaaa.X.f64 k x2 x4 L) fun v5 L6 =>
          obind (tupL v5) fun x7 =>
            uncons x7 fun v8 vs9 =>
              obind (asI IntKind.i64 v8) fun n10 =>
                uncons vs9 fun v11 vs12 =>
                  obind (asI IntKind.i64 v11) fun n13 =>
                    nilL vs12
                      (lif (n13 != 0) (some (LR.ret (Value.tuple #[Value.int IntKind.i64 0, Value.int IntKind.i64 n13]) L6))
                        (lbind (Proofs.Ytflhogapjmdkaaa.X.f65 k p0 n10 L6) fun v14 L15 =>
                          obind (tupL v14) fun x16 =>
                            uncons x16 fun v17 vs18 =>
                              obind (asI IntKind.i64 v17) fun n19 =>
                                uncons vs18 fun v20 vs21 =>
                                  obind (asI IntKind.i64 v20) fun n22 =>
                                    nilL vs21 (some (LR.ret (Value.tuple #[Value.int IntKind.i64 (IntKind.wrap IntKind.i64 (n19 + 3)), Value.int IntKind.i64 n22]) L15)))) := by kernel_rfl
theorem f76_eq (k : Nat) (l0 : Sl) (L : LHeap) : Proofs.Ytflhogapjmdkaaa.X.f76 (k + 1) l0 L =
  lbind (Proofs.Ytflhogapjmdkaaa.X.f91 k l0 (Value.func (Fn.func 95) #[] #[]) L) fun v1 L2 =>
  obind (asB v1) fun b3 =>
    lif b3 (some (LR.ret (Value.tuple #[Value.string (ByteArray.mk #[]), Value.int IntKind.i64 4]) L2))
      (lbind (Proofs.Ytflhogapjmdkaaa.X.f96 k l0 (L2 ++ [LBlk.cells [Value.slice none 0 0] 36 false 0])) fun v4 L5 =>
        lbindR
          (lappF (lcall Proofs.Try.prog Proofs.Ytflhogapjmdkaaa.X.T k) v4 [Value.func (Fn.yield (List.length L5)) #[] #[]]
            (L5 ++ [LBlk.loop 76 7 [(4, Value.pointer (some (Addr.mk (List.length L2) 0 none)))] LSt.ready]))
          fun v6 L7 =>
          lend (List.length L5) L7
            (fun L8 =>
              obind (Option.bind (cell L8 (Addr.mk (List.length L2) 0 none)) asSl) fun l10 =>
                obind (bytesOf L8 l10) fun s11 => some (LR.ret (Value.tuple #[Value.string s11, Value.int IntKind.i64 0]) L8))
            fun e9 L8 => none) := by kernel_rfl
/-- a round; slots 4 -/
noncomputable def r76_7 (k : Nat) (r12 : Nat) (j : Nat) (n13 : Int) (n14 : Int) (L : LHeap) : R :=
  lround Proofs.Try.prog Proofs.Ytflhogapjmdkaaa.X.T (lcall Proofs.Try.prog Proofs.Ytflhogapjmdkaaa.X.T k) k 76 7 [(4, Value.pointer (some (Addr.mk r12 0 none)))] j
  [Value.int IntKind.i64 n13, Value.int IntKind.i64 n14] L
theorem r76_7_eq (k : Nat) (r12 : Nat) (j : Nat) (n13 : Int) (n14 : Int) (L : LHeap) : Proofs.Ytflhogapjmdkaaa.X.r76_7 k r12 j n13 n14 L =
  lbusy j L fun L15 =>
  obind (Option.bind (cell L15 (Addr.mk r12 0 none)) asSl) fun l16 =>
    obind
      (srcOf (L15 ++ [LBlk.cells [Value.int IntKind.u8 (IntKind.wrap IntKind.u8 (bitop BinOp.or IntKind.i64 (IntKind.wrap IntKind.i64 (n13 * 16)) (IntKind.wrap IntKind.i64 (n14 - 1))))] 5 false 0])
        Proofs.Try.prog.types[5].size 1 (Value.slice (some (Addr.mk (List.length L15) 0 none)) 1 1))
      fun x17 =>
      obind
        (app (L15 ++ [LBlk.cells [Value.int IntKind.u8 (IntKind.wrap IntKind.u8 (bitop BinOp.or IntKind.i64 (IntKind.wrap IntKind.i64 (n13 * 16)) (IntKind.wrap IntKind.i64 (n14 - 1))))] 5 false 0]) 5
          Proofs.Try.prog.types[5].size Proofs.Try.prog.types[5].bytes l16 1 x17)
        fun x18 => obind (stores x18.snd (Addr.mk r12 0 none) [Value.slice x18.fst.a x18.fst.n x18.fst.c]) fun L19 => lleave j LExit.normal L19 := by kernel_rfl
theorem f78_eq (k : Nat) (n0 : Int) (L : LHeap) : Proofs.Ytflhogapjmdkaaa.X.f78 (k + 1) n0 L =
  lif (decide (n0 ≥ 4294967296))
  (lif (decide (Int.fdiv n0 4294967296 ≥ 65536))
    (lif (decide (Int.fdiv (Int.fdiv n0 4294967296) 65536 ≥ 256))
      (obind
        (byteAt
          len8tab
          (IntKind.wrap IntKind.u8 (Int.fdiv (Int.fdiv (Int.fdiv n0 4294967296) 65536) 256)))
        fun n1 => some (LR.ret (Value.int IntKind.i64 (IntKind.wrap IntKind.i64 (56 + IntKind.wrap IntKind.i64 n1))) L))
      (obind
        (byteAt
          len8tab
          (IntKind.wrap IntKind.u8 (Int.fdiv (Int.fdiv n0 4294967296) 65536)))
        fun n2 => some (LR.ret (Value.int IntKind.i64 (IntKind.wrap IntKind.i64 (48 + IntKind.wrap IntKind.i64 n2))) L)))
    (lif (decide (Int.fdiv n0 4294967296 ≥ 256))
      (obind
        (byteAt
          len8tab
          (IntKind.wrap IntKind.u8 (Int.fdiv (Int.fdiv n0 4294967296) 256)))
        fun n3 => some (LR.ret (Value.int IntKind.i64 (IntKind.wrap IntKind.i64 (40 + IntKind.wrap IntKind.i64 n3))) L))
      (obind
        (byteAt
          len8tab
          (IntKind.wrap IntKind.u8 (Int.fdiv n0 4294967296)))
        fun n4 => some (LR.ret (Value.int IntKind.i64 (IntKind.wrap IntKind.i64 (32 + IntKind.wrap IntKind.i64 n4))) L))))
  (lif (decide (n0 ≥ 65536))
    (lif (decide (Int.fdiv n0 65536 ≥ 256))
      (obind
        (byteAt
          len8tab
          (IntKind.wrap IntKind.u8 (Int.fdiv (Int.fdiv n0 65536) 256)))
        fun n5 => some (LR.ret (Value.int IntKind.i64 (IntKind.wrap IntKind.i64 (24 + IntKind.wrap IntKind.i64 n5))) L))
      (obind
        (byteAt
          len8tab
          (IntKind.wrap IntKind.u8 (Int.fdiv n0 65536)))
        fun n6 => some (LR.ret (Value.int IntKind.i64 (IntKind.wrap IntKind.i64 (16 + IntKind.wrap IntKind.i64 n6))) L)))
    (lif (decide (n0 ≥ 256))
      (obind
        (byteAt
          len8tab
          (IntKind.wrap IntKind.u8 (Int.fdiv n0 256)))
        fun n7 => some (LR.ret (Value.int IntKind.i64 (IntKind.wrap IntKind.i64 (8 + IntKind.wrap IntKind.i64 n7))) L))
      (obind
        (byteAt
          len8tab
          (IntKind.wrap IntKind.u8 n0))
        fun n8 => some (LR.ret (Value.int IntKind.i64 (IntKind.wrap IntKind.i64 (0 + IntKind.wrap IntKind.i64 n8))) L)))) := by kernel_rfl
/-- slots 7, 8 -/
noncomputable def f79_l8 (k : Nat) (j8 : Nat) (l6 : Sl) (n7 : Int) (L : LHeap) : R :=
  loopAt Proofs.Try.prog Proofs.Ytflhogapjmdkaaa.X.T 79 k [1, 1, 1, 1, 1, 1, 0, 0] [] j8 [(7, Value.slice l6.a l6.n l6.c), (8, Value.int IntKind.i64 n7)] L
theorem f79_eq (k : Nat) (l0 : Sl) (n1 : Int) (L : LHeap) : Proofs.Ytflhogapjmdkaaa.X.f79 (k + 1) l0 n1 L =
  lif (decide (n1 < 0)) (some (LR.pan (Value.iface 9 (Value.string (ByteArray.mk #[99, 97, 110, 110, 111, 116, 32, 98, 101, 32, 110, 101, 103, 97, 116, 105, 118, 101]))) L))
  (lbind (Proofs.Ytflhogapjmdkaaa.X.f97 k (IntKind.wrap IntKind.u64 (↑l0.n : Int)) (IntKind.wrap IntKind.u64 n1) L) fun v2 L3 =>
    obind (tupL v2) fun x4 =>
      uncons x4 fun v5 vs6 =>
        obind (asI IntKind.u64 v5) fun n7 =>
          uncons vs6 fun v8 vs9 =>
            obind (asI IntKind.u64 v8) fun n10 =>
              nilL vs9
                (lif (decide (n7 > 0))
                  (some
                    (LR.pan
                      (Value.iface 9
                        (Value.string
                          (ByteArray.mk
                            #[116, 104, 101, 32, 114, 101, 115, 117, 108, 116, 32, 111, 102, 32, 40, 108, 101, 110, 40, 120, 41, 32, 42, 32, 99, 111, 117, 110, 116, 41, 32, 111, 118, 101, 114, 102,
                              108, 111, 119, 115])))
                      L3))
                  (lif (decide (n10 > 9223372036854775807))
                    (some
                      (LR.pan
                        (Value.iface 9
                          (Value.string
                            (ByteArray.mk
                              #[116, 104, 101, 32, 114, 101, 115, 117, 108, 116, 32, 111, 102, 32, 40, 108, 101, 110, 40, 120, 41, 32, 42, 32, 99, 111, 117, 110, 116, 41, 32, 111, 118, 101, 114, 102,
                                108, 111, 119, 115])))
                        L3))
                    (when (room (IntKind.wrap IntKind.i64 n10) (IntKind.wrap IntKind.i64 n10) Proofs.Try.prog.types[3].bytes)
                      (obind
                        (srcOf (L3 ++ [LBlk.cells (List.flatten (List.replicate (Int.toNat (IntKind.wrap IntKind.i64 n10)) [Value.int IntKind.i64 0])) 3 false 0]) Proofs.Try.prog.types[3].size
                          (min l0.n (Int.toNat (IntKind.wrap IntKind.i64 n10))) (Value.slice l0.a l0.n l0.c))
                        fun x11 =>
                        obind
                          (lcopy (L3 ++ [LBlk.cells (List.flatten (List.replicate (Int.toNat (IntKind.wrap IntKind.i64 n10)) [Value.int IntKind.i64 0])) 3 false 0])
                            (Sl.mk (some (Addr.mk (List.length L3) 0 none)) (Int.toNat (IntKind.wrap IntKind.i64 n10)) (Int.toNat (IntKind.wrap IntKind.i64 n10)))
                            (min l0.n (Int.toNat (IntKind.wrap IntKind.i64 n10))) Proofs.Try.prog.types[3].size x11)
                          fun L12 =>
                          Proofs.Ytflhogapjmdkaaa.X.f79_l8 k k (Sl.mk (some (Addr.mk (List.length L3) 0 none)) (Int.toNat (IntKind.wrap IntKind.i64 n10)) (Int.toNat (IntKind.wrap IntKind.i64 n10)))
                            (↑(min l0.n (Int.toNat (IntKind.wrap IntKind.i64 n10))) : Int) L12))))) := by kernel_rfl
theorem f79_l8_eq (k : Nat) (j8 : Nat) (l0 : Sl) (n1 : Int) (L : LHeap) : Proofs.Ytflhogapjmdkaaa.X.f79_l8 k (j8 + 1) l0 n1 L =
  lif (decide (n1 < (↑l0.n : Int)))
  (obind (cut L l0 (some n1) none none 1) fun l2 =>
    obind (cut L l0 none (some n1) none 1) fun l3 =>
      obind (srcOf L Proofs.Try.prog.types[3].size (min l3.n l2.n) (Value.slice l3.a l3.n l3.c)) fun x4 =>
        obind (lcopy L l2 (min l3.n l2.n) Proofs.Try.prog.types[3].size x4) fun L5 => Proofs.Ytflhogapjmdkaaa.X.f79_l8 k j8 l0 (IntKind.wrap IntKind.i64 (n1 + (↑(min l3.n l2.n) : Int))) L5)
  (some (LR.ret (Value.slice l0.a l0.n l0.c) L)) := by kernel_rfl
theorem f95_eq (k : Nat) (n0 : Int) (L : LHeap) : Proofs.Ytflhogapjmdkaaa.X.f95 (k + 1) n0 L =
  lif (decide (n0 < 0)) (some (LR.ret (Value.bool true) L)) (some (LR.ret (Value.bool (decide (n0 > 15))) L)) := by kernel_rfl
theorem f96_eq (k : Nat) (l0 : Sl) (L : LHeap) : Proofs.Ytflhogapjmdkaaa.X.f96 (k + 1) l0 L =
  some (LR.ret (Value.func (Fn.func 104) #[] #[Value.pointer (some (Addr.mk (List.length L) 0 none))]) (L ++ [LBlk.cells [Value.slice l0.a l0.n l0.c] 49 false 0])) := by kernel_rfl
theorem f97_eq (k : Nat) (n0 : Int) (n1 : Int) (L : LHeap) : Proofs.Ytflhogapjmdkaaa.X.f97 (k + 1) n0 n1 L =
  lbind (Proofs.Ytflhogapjmdkaaa.X.f106 k n0 n1 L) fun v2 L3 =>
  obind (tupL v2) fun x4 =>
    uncons x4 fun v5 vs6 =>
      obind (asI IntKind.u64 v5) fun n7 =>
        uncons vs6 fun v8 vs9 => obind (asI IntKind.u64 v8) fun n10 => nilL vs9 (some (LR.ret (Value.tuple #[Value.int IntKind.u64 n7, Value.int IntKind.u64 n10]) L3)) := by kernel_rfl
/-- slots 0, 1 -/
noncomputable def f104_l0 (k : Nat) (j0 : Nat) (y38 : Nat) (r39 : Nat) (L : LHeap) : R :=
  loopAt Proofs.Try.prog Proofs.Ytflhogapjmdkaaa.X.T 104 k [0] [] j0 [(0, Value.func (Fn.yield y38) #[] #[]), (1, Value.pointer (some (Addr.mk r39 0 none)))] L
/-- slots 0, 1, 3 -/
noncomputable def f104_l2 (k : Nat) (j0_40 : Nat) (j2 : Nat) (y41 : Nat) (r42 : Nat) (n43 : Int) (L : LHeap) : R :=
  loopAt Proofs.Try.prog Proofs.Ytflhogapjmdkaaa.X.T 104 k [0, 0, 1, 0, 1, 0, 0] [j0_40] j2
  [(0, Value.func (Fn.yield y41) #[] #[]), (1, Value.pointer (some (Addr.mk r42 0 none))), (3, Value.int IntKind.i64 n43)] L
theorem f104_eq (k : Nat) (y0 : Nat) (r1 : Nat) (L : LHeap) : Proofs.Ytflhogapjmdkaaa.X.f104 (k + 1) y0 r1 L =
  Proofs.Ytflhogapjmdkaaa.X.f104_l0 k k y0 r1 L := by kernel_rfl
theorem f104_l0_eq (k : Nat) (j0 : Nat) (y0 : Nat) (r1 : Nat) (L : LHeap) : Proofs.Ytflhogapjmdkaaa.X.f104_l0 k (j0 + 1) y0 r1 L =
  obind (Option.bind (cell L (Addr.mk r1 0 none)) asSl) fun l2 => lif (decide ((↑l2.n : Int) > 0)) (Proofs.Ytflhogapjmdkaaa.X.f104_l2 k j0 k y0 r1 1 L) (some (LR.ret (Value.tuple #[]) L)) := by kernel_rfl
theorem f104_l2_eq (k : Nat) (j0_0 : Nat) (j2 : Nat) (y1 : Nat) (r2 : Nat) (n3 : Int) (L : LHeap) : Proofs.Ytflhogapjmdkaaa.X.f104_l2 k j0_0 (j2 + 1) y1 r2 n3 L =
  lif (decide (n3 < 16))
  (obind (Option.bind (cell L (Addr.mk r2 0 none)) asSl) fun l4 =>
    lif (decide (n3 < (↑l4.n : Int)))
      (obind (Option.bind (cell L (Addr.mk r2 0 none)) asSl) fun l5 =>
        obind (idx l5 n3 1) fun a6 =>
          obind (Option.bind (cell L a6) (asI IntKind.i64)) fun n7 =>
            obind (Option.bind (cell L (Addr.mk r2 0 none)) asSl) fun l8 =>
              obind (idx l8 0 1) fun a9 =>
                obind (Option.bind (cell L a9) (asI IntKind.i64)) fun n10 =>
                  lif (n7 == n10) (Proofs.Ytflhogapjmdkaaa.X.f104_l2 k j0_0 j2 y1 r2 (IntKind.wrap IntKind.i64 (n3 + 1)) L)
                    (obind (Option.bind (cell L (Addr.mk r2 0 none)) asSl) fun l11 =>
                      obind (idx l11 0 1) fun a12 =>
                        obind (Option.bind (cell L a12) (asI IntKind.i64)) fun n13 =>
                          lbind (lcall Proofs.Try.prog Proofs.Ytflhogapjmdkaaa.X.T k (YB + y1) [Value.int IntKind.i64 n13, Value.int IntKind.i64 n3] L) fun v14 L15 =>
                            obind (asB v14) fun b16 =>
                              lif (!b16) (some (LR.ret (Value.tuple #[]) L15))
                                (obind (Option.bind (cell L15 (Addr.mk r2 0 none)) asSl) fun l17 =>
                                  obind (cut L15 l17 (some n3) none none 1) fun l18 =>
                                    obind (stores L15 (Addr.mk r2 0 none) [Value.slice l18.a l18.n l18.c]) fun L19 => Proofs.Ytflhogapjmdkaaa.X.f104_l0 k j0_0 y1 r2 L19)))
      (obind (Option.bind (cell L (Addr.mk r2 0 none)) asSl) fun l20 =>
        obind (idx l20 0 1) fun a21 =>
          obind (Option.bind (cell L a21) (asI IntKind.i64)) fun n22 =>
            lbind (lcall Proofs.Try.prog Proofs.Ytflhogapjmdkaaa.X.T k (YB + y1) [Value.int IntKind.i64 n22, Value.int IntKind.i64 n3] L) fun v23 L24 =>
              obind (asB v23) fun b25 =>
                lif (!b25) (some (LR.ret (Value.tuple #[]) L24))
                  (obind (Option.bind (cell L24 (Addr.mk r2 0 none)) asSl) fun l26 =>
                    obind (cut L24 l26 (some n3) none none 1) fun l27 =>
                      obind (stores L24 (Addr.mk r2 0 none) [Value.slice l27.a l27.n l27.c]) fun L28 => Proofs.Ytflhogapjmdkaaa.X.f104_l0 k j0_0 y1 r2 L28)))
  (obind (Option.bind (cell L (Addr.mk r2 0 none)) asSl) fun l29 =>
    obind (idx l29 0 1) fun a30 =>
      obind (Option.bind (cell L a30) (asI IntKind.i64)) fun n31 =>
        lbind (lcall Proofs.Try.prog Proofs.Ytflhogapjmdkaaa.X.T k (YB + y1) [Value.int IntKind.i64 n31, Value.int IntKind.i64 n3] L) fun v32 L33 =>
          obind (asB v32) fun b34 =>
            lif (!b34) (some (LR.ret (Value.tuple #[]) L33))
              (obind (Option.bind (cell L33 (Addr.mk r2 0 none)) asSl) fun l35 =>
                obind (cut L33 l35 (some n3) none none 1) fun l36 =>
                  obind (stores L33 (Addr.mk r2 0 none) [Value.slice l36.a l36.n l36.c]) fun L37 => Proofs.Ytflhogapjmdkaaa.X.f104_l0 k j0_0 y1 r2 L37)) := by kernel_rfl
theorem f106_eq (k : Nat) (n0 : Int) (n1 : Int) (L : LHeap) : Proofs.Ytflhogapjmdkaaa.X.f106 (k + 1) n0 n1 L =
  some
  (LR.ret
    (Value.tuple
      #[Value.int IntKind.u64
          (IntKind.wrap IntKind.u64
            (IntKind.wrap IntKind.u64
                (IntKind.wrap IntKind.u64 (Int.fdiv n0 4294967296 * Int.fdiv n1 4294967296) +
                  Int.fdiv
                    (IntKind.wrap IntKind.u64
                      (IntKind.wrap IntKind.u64 (Int.fdiv n0 4294967296 * bitop BinOp.and IntKind.u64 n1 4294967295) +
                        Int.fdiv (IntKind.wrap IntKind.u64 (bitop BinOp.and IntKind.u64 n0 4294967295 * bitop BinOp.and IntKind.u64 n1 4294967295)) 4294967296))
                    4294967296) +
              Int.fdiv
                (IntKind.wrap IntKind.u64
                  (bitop BinOp.and IntKind.u64
                      (IntKind.wrap IntKind.u64
                        (IntKind.wrap IntKind.u64 (Int.fdiv n0 4294967296 * bitop BinOp.and IntKind.u64 n1 4294967295) +
                          Int.fdiv (IntKind.wrap IntKind.u64 (bitop BinOp.and IntKind.u64 n0 4294967295 * bitop BinOp.and IntKind.u64 n1 4294967295)) 4294967296))
                      4294967295 +
                    IntKind.wrap IntKind.u64 (bitop BinOp.and IntKind.u64 n0 4294967295 * Int.fdiv n1 4294967296)))
                4294967296)),
        Value.int IntKind.u64 (IntKind.wrap IntKind.u64 (n0 * n1))])
    L) := by kernel_rfl
end Go.Proofs.Ytflhogapjmdkaaa.X
end

section
namespace Go.Rlm
def OZ (L : LHeap) (s : Sl) (vs : List Value) (e : TypeId) (z : Nat) (F : List Nat) : Prop :=
  s.n * z = vs.length ∧ 0 < z ∧ ((s = ⟨none, 0, 0⟩ ∧ vs = [] ∧ F = []) ∨ ∃ c, s = ⟨some ⟨c, 0, none⟩, s.n, OPEN⟩ ∧ L[c]? = some (.cells vs e false z) ∧ F = [c])
theorem OZ.nil (L : LHeap) (e : TypeId) {z : Nat} (hz : 0 < z) : OZ L ⟨none, 0, 0⟩ [] e z [] := ⟨by simp, hz, .inl ⟨rfl, rfl, rfl⟩⟩
theorem OZ.mono {L L' : LHeap} {s : Sl} {vs : List Value} {e : TypeId} {z : Nat} {F : List Nat} (h : OZ L s vs e z F) (hk : ∀ i ∈ F, L'[i]? = L[i]?) : OZ L' s vs e z F := by
  obtain ⟨h1, h2, h | ⟨c, h3, h4, rfl⟩⟩ := h
  · exact ⟨h1, h2, .inl h⟩
  · exact ⟨h1, h2, .inr ⟨c, h3, by rw [hk c (by simp), h4], rfl⟩⟩
theorem OZ.within {L : LHeap} {s : Sl} {vs : List Value} {e : TypeId} {z : Nat} {F : List Nat} (h : OZ L s vs e z F) : Within F L := by
  obtain ⟨h1, h2, ⟨_, _, rfl⟩ | ⟨c, h3, h4, rfl⟩⟩ := h
  · intro i hi; simp at hi
  · intro i hi; simp at hi; subst hi; exact get_lt h4
theorem OZ.get {L : LHeap} {s : Sl} {vs : List Value} {e : TypeId} {z : Nat} {F : List Nat} (h : OZ L s vs e z F) {i : Nat} (hi : i < s.n) :
    ∃ c, idx s (i : Int) z = some ⟨c, i * z, none⟩ ∧ ∀ L', (∀ x ∈ F, L'[x]? = L[x]?) → ∀ o, cell L' ⟨c, o, none⟩ = vs[o]? := by
  obtain ⟨h1, h2, ⟨rfl, _, _⟩ | ⟨c, h3, h4, rfl⟩⟩ := h
  · simp at hi
  · refine ⟨c, ?_, fun L' hk o => cell_of (by rw [hk c (by simp), h4])⟩
    rw [h3, idx_of hi]
    simp
theorem OZ.app {L : LHeap} {s : Sl} {vs : List Value} {e : TypeId} {z : Nat} {F : List Nat} (h : OZ L s vs e z F) (news : List Value) (q bytes : Nat) (hq : 0 < q) (hn : news.length = q * z)
    (hb : (s.n + q) * bytes ≤ 2 ^ 47) (hl : s.n + q ≤ 2 ^ 62) :
    ∃ s' L' F', Rlm.app L e z bytes s q news = some (s', L') ∧ OZ L' s' (vs ++ news) e z F' ∧ s'.n = s.n + q ∧ Step F L F' L' := by
  obtain ⟨h1, h2, ⟨rfl, rfl, rfl⟩ | ⟨c, h3, h4, rfl⟩⟩ := h
  · refine ⟨⟨some ⟨L.length, 0, none⟩, q, OPEN⟩, L ++ [.cells news e false z], [L.length], ?_, ⟨by simp [hn], h2, .inr ⟨L.length, by simp, by simp, rfl⟩⟩, by simp, .new [] L _⟩
    simp only [Nat.zero_add] at hb hl
    have hf : Nat.ble q 0 = false := by
      cases hc : Nat.ble q 0 with
      | false => rfl
      | true => have := Nat.le_of_ble_eq_true hc; omega
    simp only [Rlm.app, Nat.zero_add]
    rw [show Nat.blt 0 OPEN = true from rfl, hf, Nat.ble_eq_true_of_le hb, Nat.ble_eq_true_of_le hl]
    simp [srcCells]
  · have hx : blen L ⟨c, 0, none⟩ z = some s.n := by
      simp only [blen, h4, Nat.beq_refl, Bool.true_and, Nat.sub_zero]
      rw [show Nat.blt 0 z = true from Nat.ble_eq_true_of_le h2, cond_true, ← h1, Nat.mul_div_cancel _ h2]
    generalize hsn : s.n = n at *
    subst h3
    have hf : Nat.ble (n + q) n = false := by
      cases hc : Nat.ble (n + q) n with
      | false => rfl
      | true => have := Nat.le_of_ble_eq_true hc; omega
    refine ⟨⟨some ⟨L.length, 0, none⟩, n + q, OPEN⟩, L.set c .dead ++ [.cells (vs ++ news) e false z], [L.length], ?_, ⟨by simp [hn, Nat.add_mul, h1], h2, .inr ⟨L.length, by simp, by rw [← (List.length_set : (L.set c LBlk.dead).length = L.length)]; exact get_new, rfl⟩⟩, rfl, ?_⟩
    · simp only [Rlm.app]
      rw [show Nat.blt OPEN OPEN = false by decide, show Nat.beq OPEN OPEN = true from Nat.beq_refl _]
      simp only [cond_true, cond_false, hx]
      rw [hf, Nat.ble_eq_true_of_le hb, Nat.ble_eq_true_of_le hl]
      simp [h4, Nat.ble_eq_true_of_le, h1]
    · refine ⟨by simp, fun i hi hn => ?_, fun i hi => by simp at hi; subst hi; exact .inr (Nat.le_refl _)⟩
      rw [get_push (by simpa using hi), get_set_ne (fun e => hn (by simp [e]))]
end Go.Rlm
end

section
namespace Go.Rlm
def iV (n : Int) : Value := .int .i64 n
def uV (n : Nat) : Value := .int .u32 (n : Int)
/-- These cells can be read by it; they stand in the block that A names. -/
def Rd (L : LHeap) (s : Sl) (vs : List Value) (A : List Nat) : Prop :=
  s.n = vs.length ∧ ((vs = [] ∧ A = []) ∨ ∃ (c o : Nat) (cs : List Value) (e : TypeId) (ro : Bool) (sp : Nat), s.a = some ⟨c, o, none⟩ ∧ L[c]? = some (.cells cs e ro sp) ∧ (∀ i, i < vs.length → cs[o + i]? = vs[i]?) ∧ A = [c])
theorem Rd.len {L : LHeap} {s : Sl} {vs : List Value} {A : List Nat} (h : Rd L s vs A) : s.n = vs.length := h.1
theorem Rd.mono {L L' : LHeap} {s : Sl} {vs : List Value} {A : List Nat} (h : Rd L s vs A) (hk : ∀ i ∈ A, L'[i]? = L[i]?) : Rd L' s vs A := by
  obtain ⟨h1, h | ⟨c, o, cs, e, ro, sp, h2, h3, h4, rfl⟩⟩ := h
  · exact ⟨h1, .inl h⟩
  · exact ⟨h1, .inr ⟨c, o, cs, e, ro, sp, h2, by rw [hk c (by simp), h3], h4, rfl⟩⟩
theorem Rd.within {L : LHeap} {s : Sl} {vs : List Value} {A : List Nat} (h : Rd L s vs A) : Within A L := by
  obtain ⟨h1, ⟨_, rfl⟩ | ⟨c, o, cs, e, ro, sp, h2, h3, h4, rfl⟩⟩ := h
  · intro i hi; simp at hi
  · intro i hi; simp at hi; subst hi; exact get_lt h3
theorem Rd.get {L : LHeap} {s : Sl} {vs : List Value} {A : List Nat} (h : Rd L s vs A) {i : Nat} (hi : i < vs.length) :
    ∃ a, idx s (i : Int) 1 = some a ∧ ∀ L', (∀ x ∈ A, L'[x]? = L[x]?) → cell L' a = vs[i]? := by
  obtain ⟨h1, ⟨rfl, _⟩ | ⟨c, o, cs, e, ro, sp, h2, h3, h4, rfl⟩⟩ := h
  · simp at hi
  · refine ⟨⟨c, o + i * 1, none⟩, ?_, fun L' hk => ?_⟩
    · have := idx_of (b := c) (o := o) (n := s.n) (c := s.c) (esz := 1) (i := i) (by omega)
      rw [← h2] at this
      exact this
    · rw [cell_of (by rw [hk c (by simp), h3]), Nat.mul_one, h4 i hi]
theorem Rd.here {L : LHeap} {s : Sl} {vs : List Value} {A : List Nat} (h : Rd L s vs A) {i : Nat} {v : Value} (hv : vs[i]? = some v) : ∃ a, idx s (i : Int) 1 = some a ∧ cell L a = some v := by
  obtain ⟨a, h1, h2⟩ := h.get (get_lt hv)
  exact ⟨a, h1, by rw [h2 L fun _ _ => rfl, hv]⟩
theorem Inp.rd {L : LHeap} {l : Sl} {vs : List Value} {A : List Nat} (h : Inp L l 1 vs A) : Rd L l vs A := by
  obtain ⟨h1, h | ⟨c, h2, h3, h4⟩⟩ := h
  · exact ⟨by omega, .inl h⟩
  · exact ⟨by omega, .inr ⟨c, 0, vs, 0, true, 0, h2, h3, fun i _ => by simp, h4⟩⟩
theorem Rd.src {L : LHeap} {s : Sl} {vs : List Value} {A : List Nat} (h : Rd L s vs A) : srcOf L 1 s.n (.slice s.a s.n s.c) = some vs := by
  obtain ⟨h1, ⟨rfl, _⟩ | ⟨c, o, cs, e, ro, sp, h2, h3, h4, rfl⟩⟩ := h
  · simp only [List.length_nil] at h1
    simp only [srcOf, srcCells, h1]
    rfl
  · simp only [srcOf, srcCells, h1, h2]
    cases hv : vs with
    | nil => rfl
    | cons v vs' =>
      rw [hv] at h4
      have hle : o + (v :: vs').length ≤ cs.length := by
        have := h4 vs'.length (by simp)
        rw [List.getElem?_eq_getElem (l := v :: vs') (by simp)] at this
        have := get_lt this
        simp; omega
      simp only [List.length_cons, show Nat.beq (vs'.length + 1) 0 = false from rfl, cond_false, cellsAt, h3, Nat.mul_one]
      simp only [List.length_cons] at hle
      rw [Nat.ble_eq_true_of_le hle, cond_true]
      congr 1
      apply List.ext_getElem?
      intro i
      rw [List.getElem?_take]
      split
      · rename_i hi
        rw [List.getElem?_drop]
        exact h4 i (by simpa using hi)
      · rw [List.getElem?_eq_none (by simp; omega)]
def WS (L : LHeap) (s : Sl) (vs : List Value) (e : TypeId) (F : List Nat) : Prop :=
  (s = ⟨none, 0, 0⟩ ∧ vs = [] ∧ F = []) ∨ ∃ c cap sp, s = ⟨some ⟨c, 0, none⟩, vs.length, cap⟩ ∧ L[c]? = some (.cells vs e false sp) ∧ (cap = vs.length ∨ (cap = OPEN ∧ sp = 1)) ∧ F = [c]
theorem WS.mono {L L' : LHeap} {s : Sl} {vs : List Value} {e : TypeId} {F : List Nat} (h : WS L s vs e F) (hk : ∀ i ∈ F, L'[i]? = L[i]?) : WS L' s vs e F := by
  rcases h with h | ⟨c, cap, sp, h1, h2, hc, rfl⟩
  · exact .inl h
  · exact .inr ⟨c, cap, sp, h1, by rw [hk c (by simp), h2], hc, rfl⟩
theorem WS.rd {L : LHeap} {s : Sl} {vs : List Value} {e : TypeId} {F : List Nat} (h : WS L s vs e F) : Rd L s vs F := by
  rcases h with ⟨rfl, rfl, rfl⟩ | ⟨c, cap, sp, rfl, h2, hc, rfl⟩
  · exact ⟨rfl, .inl ⟨rfl, rfl⟩⟩
  · exact ⟨rfl, .inr ⟨c, 0, vs, e, false, sp, rfl, h2, fun i _ => by simp, rfl⟩⟩
theorem WS.within {L : LHeap} {s : Sl} {vs : List Value} {e : TypeId} {F : List Nat} (h : WS L s vs e F) : Within F L := h.rd.within
theorem WS.len {L : LHeap} {s : Sl} {vs : List Value} {e : TypeId} {F : List Nat} (h : WS L s vs e F) : s.n = vs.length := h.rd.len
theorem OS.ws {L : LHeap} {s : Sl} {vs : List Value} {e : TypeId} {F : List Nat} (h : OS L s vs e F) : WS L s vs e F := by
  rcases h with h | ⟨c, h1, h2, h3⟩
  · exact .inl h
  · exact .inr ⟨c, OPEN, 1, h1, h2, .inr ⟨rfl, rfl⟩, h3⟩
theorem WS.put {L : LHeap} {s : Sl} {vs : List Value} {e : TypeId} {F : List Nat} (h : WS L s vs e F) {i : Nat} (hi : i < vs.length) (v : Value) :
    ∃ a L', idx s (i : Int) 1 = some a ∧ stores L a [v] = some L' ∧ WS L' s (vs.set i v) e F ∧ Step F L F L' := by
  rcases h with ⟨rfl, rfl, rfl⟩ | ⟨c, cap, sp, rfl, h2, hc, rfl⟩
  · simp at hi
  · refine ⟨⟨c, 0 + i * 1, none⟩, _, idx_of hi, stores_of h2 (by simp; omega), .inr ⟨c, cap, sp, by simp, ?_, by simpa using hc, rfl⟩, .set _ (by simp)⟩
    rw [get_set_self h2]; simp [setAll]
theorem flat_rep (n : Nat) (v : Value) : List.flatten (List.replicate n [v]) = List.replicate n v := by
  induction n with
  | zero => rfl
  | succ n ih => simp [List.replicate_succ, ih]
theorem WS.made {L : LHeap} {n : Nat} {v : Value} {e : TypeId} : WS (L ++ [LBlk.cells (List.flatten (List.replicate n [v])) e false 0]) ⟨some ⟨L.length, 0, none⟩, n, n⟩ (List.replicate n v) e [L.length] :=
  .inr ⟨L.length, n, 0, by simp, by rw [get_new, flat_rep], .inl (by simp), rfl⟩
theorem WS.lit {L : LHeap} {vs : List Value} {e : TypeId} {n : Nat} (hn : n = vs.length) : WS (L ++ [LBlk.cells vs e false 0]) ⟨some ⟨L.length, 0, none⟩, n, n⟩ vs e [L.length] :=
  .inr ⟨L.length, n, 0, by simp [hn], get_new, .inl hn, rfl⟩
theorem room_ok {n b : Nat} (h1 : n * b ≤ 2 ^ 47) (h2 : n < 2 ^ 62) : room (n : Int) (n : Int) b = true := by
  rw [room_iff]
  have : (n : Int) * (b : Int) = ((n * b : Nat) : Int) := by push_cast; rfl
  rw [this]
  omega
/-- A copy: append to an empty one. -/
theorem copy_ok {L : LHeap} {vs : List Value} (e : TypeId) (bytes : Nat) (hb : vs.length * bytes ≤ 2 ^ 47) (hl : vs.length ≤ 2 ^ 62) :
    ∃ s' L' F', Rlm.app (L ++ [LBlk.cells [] e false 0]) e 1 bytes ⟨some ⟨L.length, 0, none⟩, 0, 0⟩ vs.length vs = some (s', L') ∧ WS L' s' vs e F' ∧ Step [] L F' L' ∧ s'.a ≠ none := by
  simp only [Rlm.app, Nat.zero_add]
  rw [show Nat.blt 0 OPEN = true from rfl, cond_true]
  cases vs with
  | nil =>
    refine ⟨⟨some ⟨L.length, 0, none⟩, 0, 0⟩, _, [L.length], rfl, .inr ⟨L.length, 0, 0, rfl, get_new, .inl rfl, rfl⟩, .new [] L _, by simp⟩
  | cons v vs =>
    have hf : Nat.ble (v :: vs).length 0 = false := rfl
    rw [hf, Nat.ble_eq_true_of_le hb, Nat.ble_eq_true_of_le hl]
    simp only [cond_false, Bool.and_self, cond_true, srcCells, Nat.beq_refl, Option.bind_eq_bind, Option.bind_some, List.nil_append]
    refine ⟨⟨some ⟨(L ++ [LBlk.cells [] e false 0]).length, 0, none⟩, (v :: vs).length, OPEN⟩, _, [(L ++ [LBlk.cells [] e false 0]).length], rfl, .inr ⟨_, OPEN, 1, rfl, get_new, .inr ⟨rfl, rfl⟩, rfl⟩, ?_, by simp⟩
    exact (Step.push [] L _).trans (.new [] _ _)
def OP (L : LHeap) (s : Sl) (vs : List Value) (e : TypeId) (F : List Nat) : Prop :=
  (s = ⟨none, 0, 0⟩ ∧ vs = [] ∧ F = []) ∨ ∃ c rest, s = ⟨some ⟨c, 0, none⟩, vs.length, OPEN⟩ ∧ L[c]? = some (.cells (vs ++ rest) e false 1) ∧ F = [c]
theorem OP.nil (L : LHeap) (e : TypeId) : OP L ⟨none, 0, 0⟩ [] e [] := .inl ⟨rfl, rfl, rfl⟩
theorem OP.mono {L L' : LHeap} {s : Sl} {vs : List Value} {e : TypeId} {F : List Nat} (h : OP L s vs e F) (hk : ∀ i ∈ F, L'[i]? = L[i]?) : OP L' s vs e F := by
  rcases h with h | ⟨c, rest, h1, h2, rfl⟩
  · exact .inl h
  · exact .inr ⟨c, rest, h1, by rw [hk c (by simp), h2], rfl⟩
theorem OP.rd {L : LHeap} {s : Sl} {vs : List Value} {e : TypeId} {F : List Nat} (h : OP L s vs e F) : Rd L s vs F := by
  rcases h with ⟨rfl, rfl, rfl⟩ | ⟨c, rest, rfl, h2, rfl⟩
  · exact ⟨rfl, .inl ⟨rfl, rfl⟩⟩
  · exact ⟨rfl, .inr ⟨c, 0, vs ++ rest, e, false, 1, rfl, h2, fun i hi => by rw [Nat.zero_add, List.getElem?_append_left hi], rfl⟩⟩
theorem OP.within {L : LHeap} {s : Sl} {vs : List Value} {e : TypeId} {F : List Nat} (h : OP L s vs e F) : Within F L := h.rd.within
theorem OP.len {L : LHeap} {s : Sl} {vs : List Value} {e : TypeId} {F : List Nat} (h : OP L s vs e F) : s.n = vs.length := h.rd.len
theorem setAll_append (a b news rest : List Value) (h : rest.length = news.length) : setAll (a ++ rest ++ b) a.length news = a ++ news ++ b := by
  induction news generalizing a rest with
  | nil => obtain rfl := List.eq_nil_of_length_eq_zero h; rfl
  | cons x xs ih =>
    cases rest with
    | nil => simp at h
    | cons r rest =>
      simp only [setAll]
      have e : (a ++ r :: rest ++ b).set a.length x = a ++ [x] ++ rest ++ b := by simp [List.set_append_right]
      have := ih (a ++ [x]) rest (by simpa using h)
      simp only [List.length_append, List.length_singleton] at this
      rw [e, this]
      simp
theorem OP.app {L : LHeap} {s : Sl} {vs : List Value} {e : TypeId} {F : List Nat} (h : OP L s vs e F) (news : List Value) (bytes : Nat) (hne : news ≠ [])
    (hb : (vs.length + news.length) * bytes ≤ 2 ^ 47) (hl : vs.length + news.length ≤ 2 ^ 62) :
    ∃ s' L' F', Rlm.app L e 1 bytes s news.length news = some (s', L') ∧ OP L' s' (vs ++ news) e F' ∧ Step F L F' L' := by
  rcases h with h | ⟨c, rest, rfl, h2, rfl⟩
  · have ho : OS L s vs e F := .inl h
    obtain ⟨s', L', F', h1, h2, h3⟩ := ho.app news bytes hb hl
    refine ⟨s', L', F', h1, ?_, h3⟩
    rcases h2 with h2 | ⟨c, g1, g2, g3⟩
    · exact .inl h2
    · exact .inr ⟨c, [], g1, by simpa using g2, g3⟩
  · have hbl := blen_of (o := 0) h2
    simp only [Rlm.app]
    rw [show Nat.blt OPEN OPEN = false by decide, show Nat.beq OPEN OPEN = true from Nat.beq_refl _]
    simp only [cond_true, cond_false, hbl, Nat.sub_zero, List.length_append]
    have hem : news.isEmpty = false := by cases news <;> simp_all
    by_cases hr : news.length ≤ rest.length
    · rw [Nat.ble_eq_true_of_le (by omega), cond_true, hem, cond_false]
      have hsp : rest = rest.take news.length ++ rest.drop news.length := (List.take_append_drop _ _).symm
      refine ⟨⟨some ⟨c, 0, none⟩, vs.length + news.length, OPEN⟩, L.set c (.cells (vs ++ news ++ rest.drop news.length) e false 1), [c], ?_, .inr ⟨c, rest.drop news.length, by simp, by rw [get_set_self h2], rfl⟩, .set _ (by simp)⟩
      rw [mk_add, stores_of h2 (by simp; omega)]
      simp only [Nat.zero_add, Nat.mul_one, Option.bind_eq_bind, Option.bind_some]
      congr 3
      have := setAll_append vs (rest.drop news.length) news (rest.take news.length) (by simp; omega)
      rw [List.append_assoc vs, List.take_append_drop] at this
      rw [this]
    · have hf : Nat.ble (vs.length + news.length) (vs.length + rest.length) = false := by
        cases hc : Nat.ble (vs.length + news.length) (vs.length + rest.length) with
        | false => rfl
        | true => have := Nat.le_of_ble_eq_true hc; omega
      rw [hf, Nat.ble_eq_true_of_le hb, Nat.ble_eq_true_of_le hl]
      refine ⟨⟨some ⟨L.length, 0, none⟩, vs.length + news.length, OPEN⟩, L.set c .dead ++ [.cells (vs ++ news) e false 1], [L.length], ?_, .inr ⟨L.length, [], by simp, by rw [← (List.length_set : (L.set c LBlk.dead).length = L.length), get_new]; simp, rfl⟩, ?_⟩
      · simp [h2, Nat.ble_eq_true_of_le]
      · refine ⟨by simp, fun i hi hn => ?_, fun i hi => by simp at hi; subst hi; exact .inr (Nat.le_refl _)⟩
        rw [get_push (by simpa using hi), get_set_ne (fun e => hn (by simp [e]))]
/-- A slice that is read, and of which it is known enough to cut it. -/
def CS (L : LHeap) (s : Sl) (vs : List Value) (A : List Nat) : Prop :=
  Rd L s vs A ∧ (vs = [] ∨ (s.c < OPEN ∧ s.n ≤ s.c) ∨ (s.c = OPEN ∧ ∃ (c o : Nat) (cs : List Value) (e : TypeId) (ro : Bool), s.a = some ⟨c, o, none⟩ ∧ L[c]? = some (.cells cs e ro 1) ∧ o + s.n ≤ cs.length ∧ A = [c]))
theorem CS.rd {L : LHeap} {s : Sl} {vs : List Value} {A : List Nat} (h : CS L s vs A) : Rd L s vs A := h.1
theorem CS.mono {L L' : LHeap} {s : Sl} {vs : List Value} {A : List Nat} (h : CS L s vs A) (hk : ∀ i ∈ A, L'[i]? = L[i]?) : CS L' s vs A := by
  refine ⟨h.1.mono hk, ?_⟩
  rcases h.2 with h | h | ⟨h1, c, o, cs, e, ro, h2, h3, h4, rfl⟩
  · exact .inl h
  · exact .inr (.inl h)
  · exact .inr (.inr ⟨h1, c, o, cs, e, ro, h2, by rw [hk c (by simp), h3], h4, rfl⟩)
theorem WS.cs {L : LHeap} {s : Sl} {vs : List Value} {e : TypeId} {F : List Nat} (h : WS L s vs e F) (hs : vs.length < OPEN) : CS L s vs F := by
  refine ⟨h.rd, ?_⟩
  rcases h with ⟨rfl, rfl, rfl⟩ | ⟨c, cap, sp, rfl, h2, hc, rfl⟩
  · exact .inl rfl
  · rcases hc with rfl | ⟨rfl, rfl⟩
    · exact .inr (.inl ⟨hs, Nat.le_refl _⟩)
    · exact .inr (.inr ⟨rfl, c, 0, vs, e, false, rfl, h2, by simp, rfl⟩)
theorem Rd.drop {L : LHeap} {c o n cap cap' : Nat} {vs : List Value} {A : List Nat} (h : Rd L ⟨some ⟨c, o, none⟩, vs.length, cap⟩ vs A) (hn : n ≤ vs.length) :
    ∃ A', Rd L ⟨some ⟨c, o + n, none⟩, vs.length - n, cap'⟩ (vs.drop n) A' ∧ (∀ i ∈ A', i ∈ A) ∧ (n < vs.length → A' = A) := by
  obtain ⟨h1, ⟨rfl, rfl⟩ | ⟨c', o', cs, e, ro, sp, h2, h3, h4, rfl⟩⟩ := h
  · exact ⟨[], ⟨by simp, .inl ⟨by simp, rfl⟩⟩, (fun i hi => by cases hi), (fun h => by simp at h)⟩
  · simp only [Option.some.injEq, Addr.mk.injEq, and_true] at h2
    obtain ⟨rfl, rfl⟩ := h2
    refine ⟨[c], ⟨by simp, .inr ⟨c, o + n, cs, e, ro, sp, rfl, h3, fun i hi => ?_, rfl⟩⟩, fun i hi => hi, fun _ => rfl⟩
    simp at hi
    rw [List.getElem?_drop, Nat.add_assoc]
    exact h4 (n + i) (by omega)
theorem bound_at {i y : Nat} (d : Nat) (h : i ≤ y) : bound (some (i : Int)) d y = some i := by
  simp only [bound]
  rw [decide_eq_true (by omega), decide_eq_true (by omega)]
  simp
theorem bound_out {d y : Nat} (h : d ≤ y) : bound none d y = some d := by
  simp only [bound, Nat.ble_eq_true_of_le h, cond_true]
theorem CS.cut {L : LHeap} {s : Sl} {vs : List Value} {A : List Nat} (h : CS L s vs A) {n : Nat} (h0 : 0 < n) (hn : n ≤ vs.length) :
    ∃ s' A', Rlm.cut L s (some (n : Int)) none none 1 = some s' ∧ CS L s' (vs.drop n) A' ∧ ∀ i ∈ A', i ∈ A := by
  obtain ⟨hr, hc⟩ := h
  have hlen := hr.len
  obtain ⟨sa, sn, sc⟩ := s
  simp only at hlen hc
  subst hlen
  obtain ⟨c, o, hsa⟩ : ∃ c o, sa = some ⟨c, o, none⟩ := by
    obtain ⟨_, ⟨rfl, _⟩ | ⟨c, o, cs, e, ro, sp, h2, _⟩⟩ := hr
    · simp at hn; omega
    · exact ⟨c, o, h2⟩
  subst hsa
  have hne : vs ≠ [] := fun e => by subst e; simp at hn; omega
  rcases hc with hc | ⟨hc1, hc2⟩ | ⟨hc1, c', o', cs, e, ro, h2, h3, h4, rfl⟩
  · exact absurd hc hne
  · have hb : Nat.blt sc OPEN = true := by simpa using hc1
    simp only [Rlm.cut, hb, cond_true, Option.isSome_none, cond_false, bound_out (Nat.le_refl sc), bound_out hc2, bound_at 0 hn, Option.bind_eq_bind, Option.bind_some]
    obtain ⟨A', g1, g2, g3⟩ := hr.drop (cap' := sc - n) hn
    by_cases he : sc = n
    · rw [if_pos he]
      have : vs.drop n = [] := List.drop_of_length_le (by omega)
      exact ⟨_, [], rfl, ⟨⟨by simp, .inl ⟨this, rfl⟩⟩, .inl this⟩, fun i hi => by cases hi⟩
    · rw [if_neg he]
      refine ⟨_, A', rfl, ⟨?_, .inr (.inl ⟨by simp only; omega, by simp only; omega⟩)⟩, g2⟩
      simpa [Option.map, mk_add] using g1
  · subst hc1
    simp only [Option.some.injEq, Addr.mk.injEq, and_true] at h2
    obtain ⟨rfl, rfl⟩ := h2
    have hb : Nat.blt OPEN OPEN = false := rfl
    have hbl : blen L ⟨c, o, none⟩ 1 = some (cs.length - o) := by simp [blen, h3, show Nat.blt 0 1 = true from rfl]
    simp only [Rlm.cut, hb, cond_false, Nat.beq_refl, cond_true, hbl, Option.bind_eq_bind, Option.bind_some, bound_out (show vs.length ≤ cs.length - o by omega), bound_at 0 hn]
    rw [if_neg (by omega)]
    obtain ⟨A', g1, g2, g3⟩ := hr.drop (cap' := OPEN) hn
    by_cases he : n < cs.length - o
    · rw [if_pos he]
      refine ⟨_, A', rfl, ⟨by simpa [mk_add] using g1, ?_⟩, g2⟩
      by_cases hx : n < vs.length
      · refine .inr (.inr ⟨rfl, c, o + n, cs, e, ro, by simp [mk_add], h3, by simp only; omega, g3 hx⟩)
      · exact .inl (List.drop_of_length_le (by omega))
    · rw [if_neg he]
      have : vs.drop n = [] := List.drop_of_length_le (by omega)
      exact ⟨_, [], rfl, ⟨⟨by rw [this]; rfl, .inl ⟨this, rfl⟩⟩, .inl this⟩, fun i hi => by cases hi⟩
end Go.Rlm
end

section
set_option maxRecDepth 100000
set_option linter.unusedVariables false
namespace Go.Proofs.Ytflhogapjmdkaaa.X
open Go Go.Rlm
theorem size5 : Proofs.Try.prog.types[5].size = 1 := by kernel_rfl
theorem bytes5 : Proofs.Try.prog.types[5].bytes = 1 := by kernel_rfl
/-- A writer: at b, of these bits; it owns the blocks F. -/
def BW (L : LHeap) (b : Nat) (bs : List Bool) (F : List Nat) : Prop :=
  ∃ (s : Sl) (vs G : List Nat), L[b]? = some (.cells [.slice s.a s.n s.c, .int .i64 (bs.length : Int)] 88 false 0) ∧ OS L s (vs.map bV) 5 G ∧ Packs vs bs ∧ b ∉ G ∧ F = b :: G
theorem BW.mono {L L' : LHeap} {b : Nat} {bs : List Bool} {F : List Nat} (h : BW L b bs F) (hk : ∀ i ∈ F, L'[i]? = L[i]?) : BW L' b bs F := by
  obtain ⟨s, vs, G, h1, h2, h3, h4, rfl⟩ := h
  exact ⟨s, vs, G, by rw [hk b (by simp), h1], h2.mono fun i hi => hk i (by simp [hi]), h3, h4, rfl⟩
theorem BW.within {L : LHeap} {b : Nat} {bs : List Bool} {F : List Nat} (h : BW L b bs F) : Within F L := by
  obtain ⟨s, vs, G, h1, h2, h3, h4, rfl⟩ := h
  intro i hi
  rcases List.mem_cons.1 hi with rfl | hi
  · exact get_lt h1
  · exact h2.within i hi
theorem BW.new (L : LHeap) : BW (L ++ [.cells [.slice none 0 0, .int .i64 0] 88 false 0]) L.length [] [L.length] :=
  ⟨⟨none, 0, 0⟩, [], [], get_new, OS.nil _ _, Packs.nil, by simp, rfl⟩
/-- A bit is laid into the room that there is. -/
theorem put_tail {L : LHeap} {b : Nat} {s : Sl} {vs G : List Nat} {bs : List Bool} (x : Bool) (h1 : L[b]? = some (.cells [.slice s.a s.n s.c, .int .i64 (bs.length : Int)] 88 false 0))
    (h2 : OS L s (vs.map bV) 5 G) (h3 : PacksR vs bs) (h4 : b ∉ G) (hsm : bs.length < 2 ^ 40) :
    ∃ a L2 L3, idx s (IntKind.wrap .i64 ((s.n : Int) - 1)) 1 = some a ∧ cell L a = some (bV (vs.getD (vs.length - 1) 0)) ∧
      stores L a [bV (vs.getD (vs.length - 1) 0 ||| x.toNat * 2 ^ (7 - bs.length % 8))] = some L2 ∧
      cell L2 ⟨b, 1, none⟩ = some (.int .i64 (bs.length : Int)) ∧ stores L2 ⟨b, 1, none⟩ [.int .i64 (IntKind.wrap .i64 ((bs.length : Int) + 1))] = some L3 ∧
      BW L3 b (bs ++ [x]) (b :: G) ∧ Step (b :: G) L (b :: G) L3 := by
  have hn := h2.len
  have hl := h3.1
  simp only [List.length_map] at hn
  have e : IntKind.wrap .i64 ((s.n : Int) - 1) = ((vs.length - 1 : Nat) : Int) := by rw [wI64] <;> omega
  have hlt : vs.length - 1 < (vs.map bV).length := by simp; omega
  have hv : (vs.map bV)[vs.length - 1]? = some (bV (vs.getD (vs.length - 1) 0)) := by
    rw [List.getElem?_map, List.getD_eq_getElem?_getD, List.getElem?_eq_getElem (by omega)]; rfl
  obtain ⟨a, g1, g2⟩ := h2.get hv
  obtain ⟨a', L2, g3, g4, g5, g6⟩ := h2.put hlt (bV (vs.getD (vs.length - 1) 0 ||| x.toNat * 2 ^ (7 - bs.length % 8)))
  obtain rfl : a = a' := by rw [g1] at g3; exact Option.some.inj g3
  have g7 : L2[b]? = some (.cells [.slice s.a s.n s.c, .int .i64 (bs.length : Int)] 88 false 0) := by rw [g6.keep b (get_lt h1) h4, h1]
  refine ⟨a, L2, _, by rw [e]; exact g1, g2, g4, by rw [cell_of g7]; rfl, stores_of g7 (by simp), ⟨s, vs.set (vs.length - 1) (vs.getD (vs.length - 1) 0 ||| x.toNat * 2 ^ (7 - bs.length % 8)), G, ?_, ?_, h3.put x, h4, rfl⟩, ?_⟩
  · rw [get_set_self g7]
    simp only [setAll, List.length_append, List.length_singleton]
    rw [wI64 (by omega) (by omega)]
    rfl
  · rw [List.map_set]
    exact g5.mono fun i hi => get_set_ne (fun h => h4 (h ▸ hi))
  · exact ((g6.mono (fun i hi => by simp [hi])).less (fun i hi => .inr hi)).trans (Step.set _ (by simp))
theorem ndec {n : Int} (h : 0 ≤ n) : (!decide (n < 0)) = true := by simpa using h
theorem src_new {L : LHeap} {v : Value} {e : TypeId} {ro : Bool} {sp c : Nat} : srcOf (L ++ [.cells [v] e ro sp]) 1 1 (.slice (some ⟨L.length, 0, none⟩) 1 c) = some [v] := by
  simp [srcOf, srcCells, cellsAt]
  rfl
/-- The bit that is laid. -/
theorem put_bit (v m q : Nat) (hv : v < 4294967296) (hm : m < 32) (hq : q < 8) (y : Nat) (hy : y < 256) :
    bitop BinOp.or IntKind.u8 (y : Int) (IntKind.wrap IntKind.u8 (IntKind.wrap IntKind.u8 (bitop BinOp.and IntKind.u32 (Int.fdiv (v : Int) (2 ^ min (Int.toNat ((m : Nat) : Int)) 32)) 1) * 2 ^ min (Int.toNat ((7 - q : Nat) : Int)) 8)) =
      ((y ||| (v.testBit m).toNat * 2 ^ (7 - q) : Nat) : Int) := by
  have b1 : bitop BinOp.and IntKind.u32 (Int.fdiv (v : Int) (2 ^ min (Int.toNat ((m : Nat) : Int)) 32)) 1 = (((v.testBit m).toNat : Nat) : Int) := by
    rw [show min (Int.toNat ((m : Nat) : Int)) 32 = m by simp; omega, fdiv_pow]
    have hlt : v / 2 ^ m < 2 ^ IntKind.u32.bits := Nat.lt_of_le_of_lt (Nat.div_le_self _ _) hv
    have := bitop_and (k := .u32) rfl hlt (b := 1) (by decide)
    rw [show ((1 : Nat) : Int) = 1 from rfl] at this
    rw [this, Nat.and_one_is_mod, Nat.testBit_eq_decide_div_mod_eq]
    rcases Nat.mod_two_eq_zero_or_one (v / 2 ^ m) with h | h <;> simp [h]
  have hx := Bool.toNat_le (v.testBit m)
  have hp : 2 ^ (7 - q) ≤ 2 ^ 7 := Nat.pow_le_pow_right (by omega) (by omega)
  have hpx : (v.testBit m).toNat * 2 ^ (7 - q) < 256 := by
    have : (v.testBit m).toNat * 2 ^ (7 - q) ≤ 1 * 2 ^ 7 := Nat.mul_le_mul (by omega) (by omega)
    omega
  rw [b1, wU8 (n := (((v.testBit m).toNat : Nat) : Int)) (by omega) (by omega), show min (Int.toNat ((7 - q : Nat) : Int)) 8 = 7 - q by simp; omega]
  have e : (((v.testBit m).toNat : Nat) : Int) * 2 ^ (7 - q) = (((v.testBit m).toNat * 2 ^ (7 - q) : Nat) : Int) := by push_cast; rfl
  rw [e, wU8 (by omega) (by omega)]
  exact bitop_or (k := .u8) rfl (by simpa [IntKind.bits] using hy) (by simpa [IntKind.bits] using hpx)
theorem put_loop {k v n b : Nat} (hv : v < 4294967296) (hn : n ≤ 32) : ∀ (m i j : Nat) (bs : List Bool) (F : List Nat) (L : LHeap), i + m = n → m < j → BW L b bs F → bs.length + m < 2 ^ 40 →
    ∃ L' F', f57_l6 k j (some ⟨b, 0, none⟩) v n n i L = some (.ret (.int .i64 0) L') ∧ BW L' b (bs ++ bitsOf v m) F' ∧ Step F L F' L' := by
  intro m
  induction m with
  | zero =>
    intro i j bs F L him hj h hsm
    obtain ⟨j, rfl⟩ : ∃ j', j = j' + 1 := ⟨j - 1, by omega⟩
    refine ⟨L, F, ?_, by simpa using h, .refl _ _⟩
    rw [f57_l6_eq, decide_eq_false (by omega)]
    rfl
  | succ m ih =>
    intro i j bs F L him hj h hsm
    obtain ⟨j, rfl⟩ : ∃ j', j = j' + 1 := ⟨j - 1, by omega⟩
    obtain ⟨s, vs, G, h1, h2, h3, h4, rfl⟩ := h
    have e1 : IntKind.wrap .i64 (IntKind.wrap .i64 ((n : Int) - 1) - (i : Int)) = ((m : Nat) : Int) := by rw [wI64, wI64] <;> (try rw [wI64]) <;> omega
    have e2 : IntKind.wrap .i64 ((i : Int) + 1) = ((i + 1 : Nat) : Int) := by rw [wI64] <;> omega
    have e3 : IntKind.wrap .i64 (7 - Int.tmod (bs.length : Int) 8) = ((7 - bs.length % 8 : Nat) : Int) := by
      have := tmod_nat bs.length 8
      rw [show ((8 : Nat) : Int) = 8 from rfl] at this
      rw [this, wI64] <;> omega
    have e4 : Int.tmod (bs.length : Int) 8 = ((bs.length % 8 : Nat) : Int) := tmod_nat bs.length 8
    have c0 : cell L ⟨b, 0, none⟩ = some (.slice s.a s.n s.c) := by rw [cell_of h1]; rfl
    have c1 : cell L ⟨b, 1, none⟩ = some (.int .i64 (bs.length : Int)) := by rw [cell_of h1]; rfl
    rw [f57_l6_eq, decide_eq_true (by omega)]
    simp only [lif_true, obind_some, mk_add, Nat.zero_add, c1, c0, Option.bind_some, asI_int, asSl_slice, e1, e2, e3, size5, bytes5, src_new]
    by_cases h8 : bs.length % 8 = 0
    · rw [show (Int.tmod (bs.length : Int) 8 == 0) = true by rw [e4, h8]; rfl]
      obtain ⟨s', L', G', a1, a2, a3⟩ := (h2.mono (L' := L ++ [.cells [.int .u8 0] 5 false 0]) fun i hi => get_push (h2.within i hi)).app [bV 0] 1 (by simp; have := h3.1; omega) (by simp; have := h3.1; omega)
      have a1 : app (L ++ [.cells [.int .u8 0] 5 false 0]) 5 1 1 s 1 [.int .u8 0] = some (s', L') := a1
      have hb' : L'[b]? = some (.cells [.slice s.a s.n s.c, .int .i64 (bs.length : Int)] 88 false 0) := by rw [a3.keep b (by have := get_lt h1; simp; omega) h4, get_push (get_lt h1), h1]
      have a4 : b ∉ G' := fun hg => by rcases a3.foot b hg with q | q; exact h4 q; have := get_lt h1; simp at q; omega
      simp only [lif_true, a1, obind_some]
      rw [stores_of hb' (by simp)]
      have hb2 : (L'.set b (.cells (setAll [.slice s.a s.n s.c, .int .i64 (bs.length : Int)] 0 [.slice s'.a s'.n s'.c]) 88 false 0))[b]? = some (.cells [.slice s'.a s'.n s'.c, .int .i64 (bs.length : Int)] 88 false 0) := by
        rw [get_set_self hb']; rfl
      have st : Step (b :: G) L (b :: G') (L'.set b (.cells (setAll [.slice s.a s.n s.c, .int .i64 (bs.length : Int)] 0 [.slice s'.a s'.n s'.c]) 88 false 0)) :=
        ((Step.push (b :: G) L _).trans (((a3.mono (G := b :: G) fun i hi => by simp [hi]).less (G := b :: G') fun i hi => by rcases List.mem_cons.1 hi with rfl | hi; exact .inr (by simp); exact .inl hi))).trans (Step.set _ (by simp))
      generalize hL2 : L'.set b (.cells (setAll [.slice s.a s.n s.c, .int .i64 (bs.length : Int)] 0 [.slice s'.a s'.n s'.c]) 88 false 0) = L1 at *
      have a2' : OS L1 s' ((vs ++ [0]).map bV) 5 G' := by
        rw [List.map_append]
        exact a2.mono fun i' hi => by rw [← hL2, get_set_ne (b := b) (c := i') (fun e => a4 (e ▸ hi))]
      obtain ⟨a, L2, L3, t1, t2, t3, t4, t5, t6, t7⟩ := put_tail (v.testBit m) hb2 a2' (h3.room0 h8) a4 (by omega)
      have hy : (vs ++ [0]).getD ((vs ++ [0]).length - 1) 0 < 256 := ((h3.room0 h8).2 _ (by simp)).1
      have c0 : cell L1 ⟨b, 0, none⟩ = some (.slice s'.a s'.n s'.c) := by rw [cell_of hb2]; rfl
      have c1 : cell L1 ⟨b, 1, none⟩ = some (.int .i64 (bs.length : Int)) := by rw [cell_of hb2]; rfl
      simp only [bV] at t2 t3
      rw [← put_bit v m (bs.length % 8) hv (by omega) (by omega) _ hy] at t3
      obtain ⟨L4, F4, r1, r2, r3⟩ := ih (i + 1) j (bs ++ [v.testBit m]) _ L3 (by omega) (by omega) t6 (by simp; omega)
      refine ⟨L4, F4, ?_, by rw [bitsOf_succ]; simpa using r2, (st.trans t7).trans r3⟩
      simp only [obind_some, ndec (Int.natCast_nonneg _), when_true, c0, c1, asSl_slice, asI_int, Option.bind_some, t1, t2, e3, t3, t4, t5]
      exact r1
    · rw [show (Int.tmod (bs.length : Int) 8 == 0) = false by rw [e4]; simp; omega]
      simp only [lif_false]
      obtain ⟨a, L2, L3, t1, t2, t3, t4, t5, t6, t7⟩ := put_tail (v.testBit m) h1 h2 (h3.room h8) h4 (by omega)
      have hy : vs.getD (vs.length - 1) 0 < 256 := ((h3.room h8).2 _ (by have := (h3.room h8).1; omega)).1
      simp only [bV] at t2 t3
      rw [← put_bit v m (bs.length % 8) hv (by omega) (by omega) _ hy] at t3
      obtain ⟨L4, F4, r1, r2, r3⟩ := ih (i + 1) j (bs ++ [v.testBit m]) _ L3 (by omega) (by omega) t6 (by simp; omega)
      refine ⟨L4, F4, ?_, by rw [bitsOf_succ]; simpa using r2, t7.trans r3⟩
      simp only [obind_some, ndec (Int.natCast_nonneg _), when_true, t1, t2, e3, t3, t4, t5, asI_int, asSl_slice, Option.bind_some]
      exact r1
def putOk (v : Nat) (n : Int) : Bool := decide (0 ≤ n) && decide (n ≤ 32) && decide (v < 2 ^ n.toNat)
def putRes (v : Nat) (n : Int) : Int := if putOk v n then 0 else 1
def putBits (v : Nat) (n : Int) : List Bool := if putOk v n then bitsOf v n.toNat else []
theorem put_ok {k b v : Nat} {n : Int} {L : LHeap} {bs : List Bool} {F : List Nat} (h : BW L b bs F) (hv : v < 4294967296) (hs : bs.length < 2 ^ 39) (hk : 40 ≤ k) :
    ∃ L' F', f57 k (some ⟨b, 0, none⟩) v n L = some (.ret (.int .i64 (putRes v n)) L') ∧ BW L' b (bs ++ putBits v n) F' ∧ Step F L F' L' := by
  obtain ⟨k, rfl⟩ : ∃ k', k = k' + 1 := ⟨k - 1, by omega⟩
  rw [f57_eq]
  simp only [Option.isNone_some, lif_false]
  by_cases h0 : n < 0
  · refine ⟨L, F, ?_, ?_, .refl _ _⟩
    · simp [h0, putRes, putOk]; omega
    · simpa [putBits, putOk, show ¬ 0 ≤ n by omega] using h
  by_cases h1 : n > 32
  · refine ⟨L, F, ?_, ?_, .refl _ _⟩
    · simp [h0, h1, putRes, putOk, show ¬ n ≤ 32 by omega]
    · simpa [putBits, putOk, show ¬ n ≤ 32 by omega] using h
  obtain ⟨m, rfl⟩ : ∃ m : Nat, n = m := ⟨n.toNat, by omega⟩
  rw [decide_eq_false h0, decide_eq_false h1]
  simp only [lif_false, Bool.not_false, when_true]
  rw [wU64 (by omega) (by omega), show min (Int.toNat (m : Int)) 64 = m by simp; omega, fdiv_pow]
  by_cases h2 : v < 2 ^ m
  · have ok : putOk v (m : Int) = true := by simp [putOk, h2]; omega
    rw [Nat.div_eq_of_lt h2]
    obtain ⟨L', F', r1, r2, r3⟩ := put_loop hv (show m ≤ 32 by omega) m 0 k bs F L (by omega) (by omega) h (by omega)
    refine ⟨L', F', ?_, by simpa [putBits, ok] using r2, r3⟩
    rw [putRes, if_pos ok]
    simpa using r1
  · have ok : putOk v (m : Int) = false := by simp [putOk, h2]
    refine ⟨L, F, ?_, by simpa [putBits, ok] using h, .refl _ _⟩
    have : v / 2 ^ m ≠ 0 := by
      intro h; rcases Nat.div_eq_zero_iff.1 h with h | h
      · have := Nat.two_pow_pos m; omega
      · exact h2 h
    rw [show (((v / 2 ^ m : Nat) : Int) != 0) = true by simp only [bne_iff_ne, ne_eq]; omega]
    simp [putRes, ok]
theorem bytes_ok {k b : Nat} {L : LHeap} {bs : List Bool} {F : List Nat} (h : BW L b bs F) (hk : 1 ≤ k) : ∃ vs, Packs vs bs ∧ f58 k (some ⟨b, 0, none⟩) L = some (.ret (.string (strOf vs)) L) := by
  obtain ⟨k, rfl⟩ : ∃ k', k = k' + 1 := ⟨k - 1, by omega⟩
  obtain ⟨s, vs, G, h1, h2, h3, h4, rfl⟩ := h
  have c0 : cell L ⟨b, 0, none⟩ = some (.slice s.a s.n s.c) := by rw [cell_of h1]; rfl
  refine ⟨vs, h3, ?_⟩
  rw [f58_eq]
  simp [c0, h2.bytes h3.small]
def bb (x : Bool) : Value := bV x.toNat
def RW (L : LHeap) (b : Nat) (bs : List Bool) (F : List Nat) : Prop :=
  ∃ (s : Sl) (G : List Nat), L[b]? = some (.cells [.slice s.a s.n s.c] 29 false 0) ∧ OS L s (bs.map bb) 5 G ∧ b ∉ G ∧ F = b :: G
theorem RW.mono {L L' : LHeap} {b : Nat} {bs : List Bool} {F : List Nat} (h : RW L b bs F) (hk : ∀ i ∈ F, L'[i]? = L[i]?) : RW L' b bs F := by
  obtain ⟨s, G, h1, h2, h4, rfl⟩ := h
  exact ⟨s, G, by rw [hk b (by simp), h1], h2.mono fun i hi => hk i (by simp [hi]), h4, rfl⟩
theorem RW.within {L : LHeap} {b : Nat} {bs : List Bool} {F : List Nat} (h : RW L b bs F) : Within F L := by
  obtain ⟨s, G, h1, h2, h4, rfl⟩ := h
  intro i hi
  rcases List.mem_cons.1 hi with rfl | hi
  · exact get_lt h1
  · exact h2.within i hi
theorem RW.new (L : LHeap) : RW (L ++ [.cells [.slice none 0 0] 29 false 0]) L.length [] [L.length] :=
  ⟨⟨none, 0, 0⟩, [], get_new, OS.nil _ _, by simp, rfl⟩
/-- The bits of a byte, az far az they are. -/
def byteBits (bs : List Bool) (q t : Nat) : List Bool := (List.range t).map fun k => bs.getD (8 * q + k) false
@[simp] theorem byteBits_length (bs : List Bool) (q t : Nat) : (byteBits bs q t).length = t := by simp [byteBits]
end Go.Proofs.Ytflhogapjmdkaaa.X
end

section
set_option maxRecDepth 100000
set_option linter.unusedVariables false
namespace Go.Proofs.Ytflhogapjmdkaaa.X
open Go Go.Rlm
def takeErr (r : List Bool) (n : Int) : Int := if n < 0 ∨ n > 32 then 1 else if n > r.length then 4 else 0
def takeCnt (r : List Bool) (n : Int) : Nat := if n < 0 ∨ n > 32 then 0 else if n > r.length then 0 else n.toNat
def takeVal (r : List Bool) (n : Int) : Nat := bitNum (r.take (takeCnt r n))
def endOf (r : List Bool) : Bool := decide (r.length < 8) && r.all (!·)
def taken (r : List Bool) (n : Int) : Value := .tuple #[.int .u32 (takeVal r n), .int .i64 (takeErr r n)]
/-- A reader: at b, of the bits that are left. -/
def BR (L : LHeap) (b : Nat) (r : List Bool) : Prop :=
  ∃ (s : ByteArray) (g : Nat), L[b]? = some (.cells [.string s, .int .i64 (g : Int)] 100 false 0) ∧ g ≤ 8 * s.size ∧ s.size < 2 ^ 40 ∧ r = (unpack s).drop g
theorem BR.mono {L L' : LHeap} {b : Nat} {r : List Bool} (h : BR L b r) (hk : L'[b]? = L[b]?) : BR L' b r := by
  obtain ⟨s, g, h1, h2, h3, h4⟩ := h
  exact ⟨s, g, by rw [hk, h1], h2, h3, h4⟩
theorem BR.lt {L : LHeap} {b : Nat} {r : List Bool} (h : BR L b r) : b < L.length := by
  obtain ⟨s, g, h1, h2, h3, h4⟩ := h
  exact get_lt h1
theorem open_ok {k : Nat} {s : ByteArray} {L : LHeap} (hs : s.size < 2 ^ 40) (hk : 1 ≤ k) :
    ∃ L', f35 k s L = some (.ret (.pointer (some ⟨L.length, 0, none⟩)) L') ∧ BR L' L.length (unpack s) ∧ Step [] L [L.length] L' := by
  obtain ⟨k, rfl⟩ : ∃ k', k = k' + 1 := ⟨k - 1, by omega⟩
  rw [f35_eq]
  exact ⟨_, rfl, ⟨s, 0, get_new, by omega, hs, by simp⟩, .new [] L _⟩
theorem bit_ok {k b i g : Nat} {s : ByteArray} {L : LHeap} (h : L[b]? = some (.cells [.string s, .int .i64 (g : Int)] 100 false 0)) (hs : s.size < 2 ^ 40) (hi : i < 8 * s.size) (hk : 1 ≤ k) :
    f68 k (some ⟨b, 0, none⟩) (i : Int) L = some (.ret (.int .u32 (((bitAt s i).toNat : Nat) : Int)) L) := by
  obtain ⟨k, rfl⟩ : ∃ k', k = k' + 1 := ⟨k - 1, by omega⟩
  have c0 : cell L ⟨b, 0, none⟩ = some (.string s) := by rw [cell_of h]; rfl
  have e1 : IntKind.wrap .i64 (Int.tdiv (i : Int) 8) = ((i / 8 : Nat) : Int) := by
    rw [show (8 : Int) = ((8 : Nat) : Int) from rfl, tdiv_nat, wI64] <;> omega
  have e2 : IntKind.wrap .i64 (7 - Int.tmod (i : Int) 8) = ((7 - i % 8 : Nat) : Int) := by
    rw [show (8 : Int) = ((8 : Nat) : Int) from rfl, tmod_nat, wI64] <;> omega
  have hsz : s.data.toList.length = s.size := rfl
  have e3 : byteAt s ((i / 8 : Nat) : Int) = some (((s.data.toList.getD (i / 8) 0).toNat : Nat) : Int) := by
    simp only [byteAt]
    rw [decide_eq_true (Int.natCast_nonneg _), cond_true, Int.toNat_natCast]
    have : s[i / 8]? = some (s.data.toList.getD (i / 8) 0) := by
      rw [List.getD_eq_getElem?_getD, List.getElem?_eq_getElem (by omega), Option.getD_some]
      rw [getElem?_pos s (i / 8) (by omega)]
      rfl
    rw [this]; rfl
  rw [f68_eq]
  simp only [obind_some, mk_add, Nat.add_zero, c0, Option.bind_some, asS_string, e1, e2, e3, ndec (Int.natCast_nonneg _), when_true, Int.toNat_natCast]
  have hb := (s.data.toList.getD (i / 8) 0).toNat_lt
  have hbit : bitAt s i = (s.data.toList.getD (i / 8) 0).toNat.testBit (7 - i % 8) := rfl
  generalize (s.data.toList.getD (i / 8) 0) = y at *
  rw [show min (7 - i % 8) 8 = 7 - i % 8 by omega, fdiv_pow]
  have hle : y.toNat / 2 ^ (7 - i % 8) ≤ y.toNat := Nat.div_le_self _ _
  rw [Nat.testBit_eq_decide_div_mod_eq] at hbit
  generalize y.toNat / 2 ^ (7 - i % 8) = z at *
  rw [wU32 (by omega) (by omega)]
  have := bitop_and (k := .u32) (a := z) (b := 1) rfl (by simp only [IntKind.bits]; omega) (by decide)
  rw [show ((1 : Nat) : Int) = 1 from rfl] at this
  rw [this, Nat.and_one_is_mod, hbit]
  rcases Nat.mod_two_eq_zero_or_one z with h | h <;> simp [h]
theorem left_ok {k b : Nat} {L : LHeap} {r : List Bool} (h : BR L b r) (hk : 1 ≤ k) : f67 k (some ⟨b, 0, none⟩) L = some (.ret (.int .i64 (r.length : Int)) L) := by
  obtain ⟨k, rfl⟩ : ∃ k', k = k' + 1 := ⟨k - 1, by omega⟩
  obtain ⟨s, g, h1, h2, h3, rfl⟩ := h
  have c0 : cell L ⟨b, 0, none⟩ = some (.string s) := by rw [cell_of h1]; rfl
  have c1 : cell L ⟨b, 1, none⟩ = some (.int .i64 (g : Int)) := by rw [cell_of h1]; rfl
  rw [f67_eq]
  simp only [Option.isNone_some, lif_false, obind_some, mk_add, Nat.zero_add, c0, c1, Option.bind_some, asS_string, asI_int]
  rw [wI64 (n := 8 * (s.size : Int)) (by omega) (by omega), wI64 (by omega) (by omega)]
  simp only [List.length_drop, unpack_length]
  congr 4
  omega
theorem take_loop {k b n : Nat} {s : ByteArray} (hs : s.size < 2 ^ 40) (hn : n ≤ 32) (hk : 1 ≤ k) : ∀ (m i g j : Nat) (L : LHeap) (a : List Bool), i + m = n → m < j → a.length = i → g + m ≤ 8 * s.size →
    L[b]? = some (.cells [.string s, .int .i64 (g : Int)] 100 false 0) →
    ∃ L', f84_l9 k j (some ⟨b, 0, none⟩) ((bitNum a : Nat) : Int) n i L = some (.ret (.tuple #[.int .u32 ((bitNum (a ++ ((unpack s).drop g).take m) : Nat) : Int), .int .i64 0]) L') ∧
      L'[b]? = some (.cells [.string s, .int .i64 ((g + m : Nat) : Int)] 100 false 0) ∧ Step [b] L [b] L' := by
  intro m
  induction m with
  | zero =>
    intro i g j L a him hj ha hg hL
    obtain ⟨j, rfl⟩ : ∃ j', j = j' + 1 := ⟨j - 1, by omega⟩
    refine ⟨L, ?_, by simpa using hL, .refl _ _⟩
    rw [f84_l9_eq, decide_eq_false (by omega)]
    simp
  | succ m ih =>
    intro i g j L a him hj ha hg hL
    obtain ⟨j, rfl⟩ : ∃ j', j = j' + 1 := ⟨j - 1, by omega⟩
    have c1 : cell L ⟨b, 1, none⟩ = some (.int .i64 (g : Int)) := by rw [cell_of hL]; rfl
    rw [f84_l9_eq, decide_eq_true (by omega)]
    simp only [lif_true, obind_some, mk_add, Nat.zero_add, c1, Option.bind_some, asI_int, bit_ok hL hs (show g < 8 * s.size by omega) hk, lbind_ret]
    rw [stores_of hL (by simp)]
    have hx := Bool.toNat_le (bitAt s g)
    have hva := bitNum_lt a
    have hp : 2 ^ a.length ≤ 2 ^ 31 := Nat.pow_le_pow_right (by omega) (by omega)
    have e1 : IntKind.wrap .u32 (((bitNum a : Nat) : Int) * 2) = ((bitNum a * 2 : Nat) : Int) := by rw [wU32] <;> omega
    have e2 : bitop .or .u32 ((bitNum a * 2 : Nat) : Int) (((bitAt s g).toNat : Nat) : Int) = ((bitNum (a ++ [bitAt s g]) : Nat) : Int) := by
      rw [bitop_or rfl (by simp only [IntKind.bits]; omega) (by simp only [IntKind.bits]; omega), bitNum_snoc]
      congr 1
      have := Nat.two_pow_add_eq_or_of_lt (i := 1) (b := (bitAt s g).toNat) (by omega) (bitNum a)
      rw [Nat.mul_comm]
      exact this.symm
    have e3 : IntKind.wrap .i64 ((i : Int) + 1) = ((i + 1 : Nat) : Int) := by rw [wI64] <;> omega
    have e4 : IntKind.wrap .i64 ((g : Int) + 1) = ((g + 1 : Nat) : Int) := by rw [wI64] <;> omega
    simp only [obind_some, e1, e2, e3, e4, setAll]
    obtain ⟨L', r1, r2, r3⟩ := ih (i + 1) (g + 1) j (L.set b (.cells [.string s, .int .i64 ((g + 1 : Nat) : Int)] 100 false 0)) (a ++ [bitAt s g]) (by omega) (by omega) (by simp [ha]) (by omega) (get_set_self hL)
    refine ⟨L', ?_, by rw [r2]; congr 5; omega, (Step.set _ (by simp)).trans r3⟩
    have hd : (unpack s).drop g = bitAt s g :: (unpack s).drop (g + 1) := by
      rw [List.drop_eq_getElem_cons (by simp; omega)]
      congr 1
      have := unpack_get (s := s) (i := g) (by omega)
      rw [List.getElem?_eq_getElem (by simp; omega)] at this
      exact Option.some.inj this
    rw [hd, List.take_succ_cons]
    rw [List.append_assoc] at r1
    exact r1
theorem take_ok {k b : Nat} {n : Int} {L : LHeap} {r : List Bool} (h : BR L b r) (hk : 40 ≤ k) :
    ∃ L', f84 k (some ⟨b, 0, none⟩) n L = some (.ret (taken r n) L') ∧ BR L' b (r.drop (takeCnt r n)) ∧ Step [b] L [b] L' := by
  obtain ⟨k, rfl⟩ : ∃ k', k = k' + 1 := ⟨k - 1, by omega⟩
  rw [f84_eq]
  by_cases h0 : n < 0
  · refine ⟨L, ?_, by simpa [takeCnt, h0] using h, .refl _ _⟩
    simp [h0, taken, takeVal, takeCnt, takeErr, bitNum]
  by_cases h1 : n > 32
  · refine ⟨L, ?_, by simpa [takeCnt, h1] using h, .refl _ _⟩
    simp [h0, h1, taken, takeVal, takeCnt, takeErr, bitNum]
  rw [decide_eq_false h0, decide_eq_false h1]
  simp only [Option.isNone_some, lif_false, left_ok h (show 1 ≤ k by omega), lbind_ret, asI_int, obind_some]
  have hor : ¬ (n < 0 ∨ n > 32) := by omega
  by_cases h2 : n > (r.length : Int)
  · refine ⟨L, ?_, by simpa [takeCnt, hor, h2] using h, .refl _ _⟩
    simp [h2, taken, takeVal, takeCnt, takeErr, bitNum, hor]
  rw [decide_eq_false h2]
  simp only [lif_false]
  obtain ⟨m, rfl⟩ : ∃ m : Nat, n = m := ⟨n.toNat, by omega⟩
  obtain ⟨s, g, g1, g2, g3, rfl⟩ := h
  simp only [List.length_drop, unpack_length] at h2
  obtain ⟨L', r1, r2, r3⟩ := take_loop g3 (show m ≤ 32 by omega) (show 1 ≤ k by omega) m 0 g k L [] (by omega) (by omega) rfl (by omega) g1
  have hc : takeCnt ((unpack s).drop g) (m : Int) = m := by
    unfold takeCnt
    rw [if_neg hor, if_neg (by simp only [List.length_drop, unpack_length]; omega)]; rfl
  refine ⟨L', ?_, ⟨s, g + m, r2, by omega, g3, by rw [hc, List.drop_drop]⟩, r3⟩
  rw [taken, takeVal, hc, takeErr, if_neg hor, if_neg (by simp only [List.length_drop, unpack_length]; omega)]
  exact r1
theorem end_loop {k b g : Nat} {s : ByteArray} {L : LHeap} (hs : s.size < 2 ^ 40) (hL : L[b]? = some (.cells [.string s, .int .i64 (g : Int)] 100 false 0)) (hk : 1 ≤ k) (n : Nat) (hn : g + n = 8 * s.size) :
    ∀ (m i j : Nat), i + m = n → m < j → f37_l5 k j (some ⟨b, 0, none⟩) n i L = some (.ret (.bool (((unpack s).drop (g + i)).all (!·))) L) := by
  intro m
  induction m with
  | zero =>
    intro i j him hj
    obtain ⟨j, rfl⟩ : ∃ j', j = j' + 1 := ⟨j - 1, by omega⟩
    rw [f37_l5_eq, decide_eq_false (by omega), List.drop_eq_nil_of_le (by simp; omega)]
    rfl
  | succ m ih =>
    intro i j him hj
    obtain ⟨j, rfl⟩ : ∃ j', j = j' + 1 := ⟨j - 1, by omega⟩
    have c1 : cell L ⟨b, 1, none⟩ = some (.int .i64 (g : Int)) := by rw [cell_of hL]; rfl
    have e1 : IntKind.wrap .i64 ((g : Int) + (i : Int)) = ((g + i : Nat) : Int) := by rw [wI64] <;> omega
    have e3 : IntKind.wrap .i64 ((i : Int) + 1) = ((i + 1 : Nat) : Int) := by rw [wI64] <;> omega
    have hd : (unpack s).drop (g + i) = bitAt s (g + i) :: (unpack s).drop (g + (i + 1)) := by
      rw [List.drop_eq_getElem_cons (by simp; omega)]
      congr 1
      have := unpack_get (s := s) (i := g + i) (by omega)
      rw [List.getElem?_eq_getElem (by simp; omega)] at this
      exact Option.some.inj this
    rw [f37_l5_eq, decide_eq_true (by omega)]
    simp only [lif_true, obind_some, mk_add, Nat.zero_add, c1, Option.bind_some, asI_int, e1, e3, bit_ok hL hs (show g + i < 8 * s.size by omega) hk, lbind_ret]
    rw [hd, List.all_cons]
    cases hb : bitAt s (g + i)
    · simpa using ih (i + 1) j (by omega) (by omega)
    · rfl
theorem end_ok {k b : Nat} {L : LHeap} {r : List Bool} (h : BR L b r) (hk : 20 ≤ k) : f37 k (some ⟨b, 0, none⟩) L = some (.ret (.bool (endOf r)) L) := by
  obtain ⟨k, rfl⟩ : ∃ k', k = k' + 1 := ⟨k - 1, by omega⟩
  rw [f37_eq]
  simp only [left_ok h (show 1 ≤ k by omega), lbind_ret, asI_int, obind_some]
  by_cases h8 : r.length < 8
  · rw [decide_eq_false (by omega)]
    obtain ⟨s, g, g1, g2, g3, rfl⟩ := h
    simp only [List.length_drop, unpack_length] at h8
    have := end_loop g3 g1 (show 1 ≤ k by omega) (8 * s.size - g) (by omega) (8 * s.size - g) 0 k (by omega) (by omega)
    simp only [lif_false, List.length_drop, unpack_length, endOf, decide_eq_true h8, Bool.true_and]
    exact this
  · rw [decide_eq_true (by omega)]
    simp [endOf, h8]
/-- A row that is read and cut. -/
def RS (L : LHeap) (s : Sl) (vs : List Value) (F : List Nat) : Prop :=
  (s = ⟨none, 0, 0⟩ ∧ vs = [] ∧ F = []) ∨ (∃ a, s = ⟨some a, 0, LOOSE⟩ ∧ vs = [] ∧ F = []) ∨
    ∃ (c o : Nat) (cs : List Value), s = ⟨some ⟨c, o, none⟩, vs.length, OPEN⟩ ∧ L[c]? = some (.cells cs 5 false 1) ∧ vs = cs.drop o ∧ F = [c]
theorem RS.mono {L L' : LHeap} {s : Sl} {vs : List Value} {F : List Nat} (h : RS L s vs F) (hk : ∀ i ∈ F, L'[i]? = L[i]?) : RS L' s vs F := by
  rcases h with h | h | ⟨c, o, cs, h1, h2, h3, rfl⟩
  · exact .inl h
  · exact .inr (.inl h)
  · exact .inr (.inr ⟨c, o, cs, h1, by rw [hk c (by simp), h2], h3, rfl⟩)
theorem RS.within {L : LHeap} {s : Sl} {vs : List Value} {F : List Nat} (h : RS L s vs F) : Within F L := by
  rcases h with ⟨_, _, rfl⟩ | ⟨_, _, _, rfl⟩ | ⟨c, o, cs, h1, h2, h3, rfl⟩
  · intro i hi; simp at hi
  · intro i hi; simp at hi
  · intro i hi; simp at hi; subst hi; exact get_lt h2
theorem RS.len {L : LHeap} {s : Sl} {vs : List Value} {F : List Nat} (h : RS L s vs F) : s.n = vs.length := by
  rcases h with ⟨rfl, rfl, _⟩ | ⟨_, rfl, rfl, _⟩ | ⟨c, o, cs, rfl, h2, h3, rfl⟩ <;> rfl
theorem OS.rs {L : LHeap} {s : Sl} {vs : List Value} {F : List Nat} (h : OS L s vs 5 F) : RS L s vs F := by
  rcases h with h | ⟨c, h1, h2, h3⟩
  · exact .inl h
  · exact .inr (.inr ⟨c, 0, vs, h1, h2, rfl, h3⟩)
theorem RS.get {L : LHeap} {s : Sl} {vs : List Value} {F : List Nat} (h : RS L s vs F) {i : Nat} {v : Value} (hv : vs[i]? = some v) :
    ∃ a, idx s (i : Int) 1 = some a ∧ cell L a = some v := by
  rcases h with ⟨rfl, rfl, _⟩ | ⟨_, rfl, rfl, _⟩ | ⟨c, o, cs, rfl, h2, h3, rfl⟩
  · simp at hv
  · simp at hv
  · refine ⟨⟨c, o + i * 1, none⟩, idx_of (get_lt hv), ?_⟩
    rw [cell_of h2, ← hv, h3, List.getElem?_drop, Nat.mul_one]
theorem RS.cut {L : LHeap} {s : Sl} {vs : List Value} {F : List Nat} (h : RS L s vs F) {n : Nat} (hn : n ≤ vs.length) :
    ∃ s' F', Rlm.cut L s (some (n : Int)) none none 1 = some s' ∧ RS L s' (vs.drop n) F' ∧ ∀ i ∈ F', i ∈ F := by
  rcases h with ⟨rfl, rfl, rfl⟩ | ⟨a, rfl, rfl, rfl⟩ | ⟨c, o, cs, rfl, h2, h3, rfl⟩
  · obtain rfl : n = 0 := by simpa using hn
    exact ⟨⟨none, 0, 0⟩, [], rfl, .inl ⟨rfl, rfl, rfl⟩, fun i hi => hi⟩
  · obtain rfl : n = 0 := by simpa using hn
    refine ⟨⟨some a, 0, LOOSE⟩, [], ?_, .inr (.inl ⟨a, rfl, rfl, rfl⟩), fun i hi => hi⟩
    simp only [Rlm.cut]
    rw [show Nat.blt LOOSE OPEN = false by decide, show Nat.beq LOOSE OPEN = false by decide, show Nat.beq LOOSE LOOSE = true from Nat.beq_refl _]
    rfl
  · have hl : vs.length = cs.length - o := by rw [h3]; simp
    simp only [Rlm.cut]
    rw [show Nat.blt OPEN OPEN = false by decide, show Nat.beq OPEN OPEN = true from Nat.beq_refl _]
    simp only [cond_true, cond_false, blen_of (o := o) h2, Option.bind_eq_bind, Option.bind_some, bound]
    rw [Nat.ble_eq_true_of_le (show vs.length ≤ cs.length - o by omega)]
    simp only [cond_true, Option.bind_some]
    rw [show (decide (0 ≤ (n : Int)) && decide ((n : Int) ≤ (vs.length : Int))) = true by simpa using hn]
    simp only [cond_true, Option.bind_some, Int.toNat_natCast]
    by_cases h0 : n = 0
    · subst h0
      exact ⟨_, [c], rfl, .inr (.inr ⟨c, o, cs, by simp, h2, by simpa using h3, rfl⟩), fun i hi => hi⟩
    · rw [if_neg h0]
      by_cases h1 : n < cs.length - o
      · rw [if_pos h1]
        exact ⟨_, [c], rfl, .inr (.inr ⟨c, o + n, cs, by simp, h2, by rw [h3, List.drop_drop], rfl⟩), fun i hi => hi⟩
      · rw [if_neg h1]
        exact ⟨_, [], rfl, .inr (.inl ⟨_, rfl, List.drop_eq_nil_of_le (by omega), rfl⟩), fun i hi => by simp at hi⟩
def RR (L : LHeap) (b : Nat) (r : List Bool) (F : List Nat) : Prop :=
  ∃ (s : Sl) (G : List Nat), L[b]? = some (.cells [.slice s.a s.n s.c] 77 false 0) ∧ RS L s (r.map bb) G ∧ b ∉ G ∧ F = b :: G
theorem RR.mono {L L' : LHeap} {b : Nat} {bs : List Bool} {F : List Nat} (h : RR L b bs F) (hk : ∀ i ∈ F, L'[i]? = L[i]?) : RR L' b bs F := by
  obtain ⟨s, G, h1, h2, h4, rfl⟩ := h
  exact ⟨s, G, by rw [hk b (by simp), h1], h2.mono fun i hi => hk i (by simp [hi]), h4, rfl⟩
theorem RR.within {L : LHeap} {b : Nat} {bs : List Bool} {F : List Nat} (h : RR L b bs F) : Within F L := by
  obtain ⟨s, G, h1, h2, h4, rfl⟩ := h
  intro i hi
  rcases List.mem_cons.1 hi with rfl | hi
  · exact get_lt h1
  · exact h2.within i hi
end Go.Proofs.Ytflhogapjmdkaaa.X
end

section
set_option maxRecDepth 100000
set_option linter.unusedVariables false
namespace Go.Proofs.Ytflhogapjmdkaaa.X
open Go Go.Rlm
theorem none_apart (H : List Nat) : Apart [] H := fun i hi => by simp at hi
theorem one_apart {b : Nat} {H : List Nat} (h : b ∉ H) : Apart [b] H := fun i hi => by simp at hi; subst hi; exact h
end Go.Proofs.Ytflhogapjmdkaaa.X
end

section
set_option maxRecDepth 100000
set_option linter.unusedVariables false
namespace Go.Proofs.Ytflhogapjmdkaaa.X
open Go Go.Rlm
theorem cellsAt_all {L : LHeap} {b n : Nat} {cs : List Value} {e : TypeId} {ro : Bool} {sp : Nat} (h : L[b]? = some (.cells cs e ro sp)) (hn : cs.length = n) : cellsAt L ⟨b, 0, none⟩ n = some cs := by
  simp only [cellsAt, h, Nat.zero_add]
  rw [Nat.ble_eq_true_of_le (by omega), cond_true, List.drop_zero, List.take_of_length_le (by omega)]
theorem stores_all {L : LHeap} {b : Nat} {cs news : List Value} {e : TypeId} {sp : Nat} (h : L[b]? = some (.cells cs e false sp)) (hn : news.length = cs.length) : stores L ⟨b, 0, none⟩ news = some (L.set b (.cells news e false sp)) := by
  rw [stores_of h (by omega)]
  have := setAll_append [] [] news cs hn.symm
  simp only [List.nil_append, List.append_nil, List.length_nil] at this
  rw [this]
theorem set_same {L : LHeap} {b : Nat} {x : LBlk} (h : L[b]? = some x) : L.set b x = L := by
  apply List.ext_getElem?
  intro i
  by_cases hi : b = i
  · subst hi; rw [get_set_self h, h]
  · rw [get_set_ne hi]
def cntCells (zs : List Int) : List Value := (List.range 16).map fun n => iV (cnt zs n)
@[simp] theorem cntCells_length (zs : List Int) : (cntCells zs).length = 16 := by simp [cntCells]
theorem cntCells_get (zs : List Int) {n : Nat} (h : n < 16) : (cntCells zs)[n]? = some (iV (cnt zs n)) := by simp [cntCells, h]
theorem cntCells_set (zs : List Int) {z : Int} (h0 : 0 ≤ z) (h : z ≤ 15) : (cntCells zs).set z.toNat (iV ((cnt zs z.toNat : Int) + 1)) = cntCells (zs ++ [z]) := by
  apply List.ext_getElem?
  intro i
  by_cases hi : i < 16
  · rw [cntCells_get _ hi, cnt_snoc]
    by_cases hz : z.toNat = i
    · subst hz
      rw [List.getElem?_set_self (by simp; omega), if_pos (by omega)]
      simp [iV]
    · rw [List.getElem?_set_ne hz, cntCells_get _ hi, if_neg (by omega)]
      rfl
  · rw [List.getElem?_eq_none (by simp; omega), List.getElem?_eq_none (by simp; omega)]
theorem okLen_false {zs : List Int} {z : Int} (hz : z ∈ zs) (h : ¬ (0 ≤ z ∧ z ≤ 15)) : okLen zs = false := by
  cases hk : okLen zs with
  | false => rfl
  | true => exact absurd (okLen_mem hk hz) h
theorem count_loop {k r : Nat} {l : Sl} {zs : List Int} {A : List Nat} (hs : zs.length < 2 ^ 60) (hrA : r ∉ A) (hn : l.n = zs.length) :
    ∀ (m i j : Nat) (L : LHeap), i + m = zs.length → m < j → L[r]? = some (.cells (cntCells (zs.take i)) 137 false 0) → (∀ z ∈ zs.take i, 0 ≤ z ∧ z ≤ 15) → Rd L l (zs.map iV) A →
      ∃ L' cs, f81_l2 k j r l (l.n : Int) i L = some (.ret (.tuple #[.agg (List.toArray cs), .bool (okLen zs)]) L') ∧ cs.length = 16 ∧ (okLen zs = true → cs = cntCells zs) ∧ Step [r] L [] L' := by
  intro m
  induction m with
  | zero =>
    intro i j L hi hj hL hok hl
    obtain ⟨j, rfl⟩ : ∃ j', j = j' + 1 := ⟨j - 1, by omega⟩
    rw [List.take_of_length_le (by omega)] at hL hok
    have hz : okLen zs = true := by
      simp only [okLen, List.all_eq_true]
      intro z hz
      have := hok z hz
      simpa using this
    refine ⟨L, cntCells zs, ?_, by simp, fun _ => rfl, (Step.refl [r] L).less fun i hi => .inr (by simp at hi)⟩
    rw [f81_l2_eq, decide_eq_false (by omega)]
    simp only [lif_false, cellsAt_all hL (cntCells_length zs), obind_some, cntCells_length, Nat.beq_refl, when_true, stores_all hL rfl]
    rw [set_same hL]
    simp only [cellsAt_all hL (cntCells_length zs), obind_some, hz]
  | succ m ih =>
    intro i j L hi hj hL hok hl
    obtain ⟨j, rfl⟩ : ∃ j', j = j' + 1 := ⟨j - 1, by omega⟩
    have hiz : i < zs.length := by omega
    obtain ⟨a, a1, a2⟩ := hl.here (i := i) (v := iV zs[i]) (by simp [hiz])
    have fail : ¬ (0 ≤ zs[i] ∧ zs[i] ≤ 15) → okLen zs = false := okLen_false (List.getElem_mem hiz)
    rw [f81_l2_eq, decide_eq_true (by omega)]
    simp only [lif_true, a1, a2, iV, obind_some, Option.bind_some, asI_int]
    by_cases h0 : zs[i] < 0
    · refine ⟨L, cntCells (zs.take i), ?_, by simp, fun h => (by rw [fail (by omega)] at h; cases h), (Step.refl [r] L).less fun i hi => .inr (by simp at hi)⟩
      rw [decide_eq_true h0, fail (by omega)]
      simp only [lif_true, cellsAt_all hL (cntCells_length _), obind_some, cntCells_length, Nat.beq_refl, when_true, stores_all hL rfl]
      rw [set_same hL]
      simp only [cellsAt_all hL (cntCells_length _), obind_some]
    by_cases h1 : zs[i] > 15
    · refine ⟨L, cntCells (zs.take i), ?_, by simp, fun h => (by rw [fail (by omega)] at h; cases h), (Step.refl [r] L).less fun i hi => .inr (by simp at hi)⟩
      rw [decide_eq_false h0, decide_eq_true h1, fail (by omega)]
      simp only [lif_true, lif_false, cellsAt_all hL (cntCells_length _), obind_some, cntCells_length, Nat.beq_refl, when_true, stores_all hL rfl]
      rw [set_same hL]
      simp only [cellsAt_all hL (cntCells_length _), obind_some]
    have hn1 : zs[i].toNat < 16 := by omega
    have hcl := cnt_le (zs.take i) zs[i].toNat
    simp only [List.length_take] at hcl
    have c0 : cell L ⟨r, 0 + zs[i].toNat * 1, none⟩ = some (.int .i64 (cnt (zs.take i) zs[i].toNat : Int)) := by
      rw [cell_of hL, Nat.zero_add, Nat.mul_one, cntCells_get _ hn1]; rfl
    rw [decide_eq_false h0, decide_eq_false h1, decide_eq_true (show 0 ≤ zs[i] by omega), decide_eq_true (show zs[i] < 16 by omega)]
    simp only [lif_false, when_true, mk_add, c0, Option.bind_some, asI_int, obind_some]
    rw [wI64 (n := (cnt (zs.take i) zs[i].toNat : Int) + 1) (by omega) (by omega), wI64 (n := (i : Int) + 1) (by omega) (by omega), stores_of hL (by simp; omega)]
    have hset : setAll (cntCells (zs.take i)) (0 + zs[i].toNat * 1) [Value.int .i64 ((cnt (zs.take i) zs[i].toNat : Int) + 1)] = cntCells (zs.take (i + 1)) := by
      rw [take_succ_int hiz, ← cntCells_set _ (by omega) (by omega), Nat.zero_add, Nat.mul_one]; rfl
    rw [hset]
    obtain ⟨L', cs, r1, r2, r3, r4⟩ := ih (i + 1) j (L.set r (.cells (cntCells (zs.take (i + 1))) 137 false 0)) (by omega) (by omega) (get_set_self hL)
      (fun z hz => by rw [take_succ_int hiz] at hz; rcases List.mem_append.1 hz with hz | hz; exact hok z hz; simp at hz; subst hz; omega)
      (hl.mono fun x hx => get_set_ne (fun e => hrA (e ▸ hx)))
    exact ⟨L', cs, r1, r2, r3, (Step.set _ (by simp)).trans r4⟩
theorem count_ok {k : Nat} {l : Sl} {zs : List Int} {A : List Nat} {L : LHeap} (hl : Rd L l (zs.map iV) A) (hs : zs.length < 2 ^ 60) (hk : zs.length + 5 ≤ k) :
    ∃ L' cs, f81 k l L = some (.ret (.tuple #[.agg (List.toArray cs), .bool (okLen zs)]) L') ∧ cs.length = 16 ∧ (okLen zs = true → cs = cntCells zs) ∧ Step [] L [] L' := by
  obtain ⟨k, rfl⟩ : ∃ k', k = k' + 1 := ⟨k - 1, by omega⟩
  have hn := hl.len
  simp only [List.length_map] at hn
  rw [f81_eq]
  generalize hX : LBlk.cells _ 137 false 0 = X
  have hX' : X = .cells (cntCells ([].take 0)) 137 false 0 := by rw [← hX]; rfl
  obtain ⟨L', cs, r1, r2, r3, r4⟩ := count_loop (k := k) (r := L.length) hs (fun h => by have := hl.within _ h; omega) hn zs.length 0 k (L ++ [X]) (by omega) (by omega) (by rw [get_new, hX']; rfl) (fun z hz => by simp at hz) (hl.mono fun x hx => get_push (hl.within x hx))
  exact ⟨L', cs, r1, r2, r3, (Step.new [] L X).trans r4⟩
theorem may_loop {k r : Nat} {zs : List Int} {L : LHeap} (hok : okLen zs = true) (h512 : zs.length ≤ 512) (hL : L[r]? = some (.cells (cntCells zs) 137 false 0)) :
    ∀ (m n j : Nat), n + m = 15 → m < j → f98_l6 k j r (fillTo zs n : Int) (usedTo zs n : Int) ((n + 1 : Nat) : Int) L = some (.ret (.bool (may zs)) L) := by
  intro m
  induction m with
  | zero =>
    intro n j hn hj
    obtain ⟨j, rfl⟩ : ∃ j', j = j' + 1 := ⟨j - 1, by omega⟩
    obtain rfl : n = 15 := by omega
    rw [f98_l6_eq, decide_eq_false (by omega)]
    simp only [lif_false, may, hok, decide_eq_true h512, Bool.true_and]
    generalize fillTo zs 15 = x
    generalize usedTo zs 15 = y
    by_cases h0 : x = 0
    · subst h0; rfl
    rw [show ((x : Int) == 0) = false by simpa using h0, decide_eq_false h0]
    by_cases h1 : x = 32768
    · subst h1; rfl
    rw [show ((x : Int) == 32768) = false by simp; omega, decide_eq_false h1]
    by_cases h2 : y = 1
    · subst h2
      simp only [lif_false, Bool.false_or, decide_true, Bool.true_and]
      rw [show (((1 : Nat) : Int) == 1) = true from rfl, lif_true]
      by_cases h3 : x = 16384
      · subst h3; rfl
      · rw [decide_eq_false h3, show ((x : Int) == 16384) = false by simp; omega]
    · rw [show ((y : Int) == 1) = false by simp; omega, decide_eq_false h2]
      rfl
  | succ m ih =>
    intro n j hn hj
    obtain ⟨j, rfl⟩ : ∃ j', j = j' + 1 := ⟨j - 1, by omega⟩
    have c0 : cell L ⟨r, 0 + (n + 1) * 1, none⟩ = some (.int .i64 (cnt zs (n + 1) : Int)) := by
      rw [cell_of hL, Nat.zero_add, Nat.mul_one, cntCells_get _ (by omega)]; rfl
    have h1 := cnt_le zs (n + 1)
    have h2 := fillTo_le hok n (by omega)
    have h3 := usedTo_le hok n (by omega)
    have hp : 2 ^ (15 - (n + 1)) ≤ 2 ^ 14 := Nat.pow_le_pow_right (by omega) (by omega)
    have hm : cnt zs (n + 1) * 2 ^ (15 - (n + 1)) ≤ 512 * 2 ^ 14 := Nat.mul_le_mul (by omega) hp
    have e1 : IntKind.wrap .i64 (15 - ((n + 1 : Nat) : Int)) = ((15 - (n + 1) : Nat) : Int) := by rw [wI64] <;> omega
    have e2 : (cnt zs (n + 1) : Int) * 2 ^ (15 - (n + 1)) = ((cnt zs (n + 1) * 2 ^ (15 - (n + 1)) : Nat) : Int) := by push_cast; rfl
    rw [f98_l6_eq, decide_eq_true (show ((n + 1 : Nat) : Int) < 16 by omega), decide_eq_true (show (0 : Int) ≤ ((n + 1 : Nat) : Int) by omega)]
    simp only [lif_true, when_true, Int.toNat_natCast, mk_add, c0, Option.bind_some, asI_int, obind_some, e1, ndec (Int.natCast_nonneg _)]
    rw [show min (15 - (n + 1)) 64 = 15 - (n + 1) by omega, e2]
    generalize hX : cnt zs (n + 1) * 2 ^ (15 - (n + 1)) = X at *
    rw [wI64 (n := (X : Int)) (by omega) (by omega), wI64 (n := (fillTo zs n : Int) + (X : Int)) (by omega) (by omega), wI64 (n := (usedTo zs n : Int) + (cnt zs (n + 1) : Int)) (by omega) (by omega), wI64 (n := ((n + 1 : Nat) : Int) + 1) (by omega) (by omega)]
    have := ih (n + 1) j (by omega) (by omega)
    rw [show fillTo zs (n + 1) = fillTo zs n + X by rw [← hX]; rfl, show usedTo zs (n + 1) = usedTo zs n + cnt zs (n + 1) from rfl] at this
    exact this
theorem may_false_of {zs : List Int} (h : okLen zs = false ∨ 512 < zs.length) : may zs = false := by
  rcases h with h | h
  · simp [may, h]
  · simp [may, show ¬ zs.length ≤ 512 by omega]
theorem may_okay {k : Nat} {l : Sl} {zs : List Int} {A : List Nat} {L : LHeap} (hl : Rd L l (zs.map iV) A) (hs : zs.length < 2 ^ 60) (hk : zs.length + 30 ≤ k) :
    ∃ L', f98 k l L = some (.ret (.bool (may zs)) L') ∧ Step [] L [] L' := by
  obtain ⟨k, rfl⟩ : ∃ k', k = k' + 1 := ⟨k - 1, by omega⟩
  have hn := hl.len
  simp only [List.length_map] at hn
  obtain ⟨L1, cs, a1, a2, a3, a4⟩ := count_ok (k := k) hl hs (by omega)
  rw [f98_eq]
  simp only [a1, lbind_ret, tupL_tuple, uncons_cons, nilL_nil, asAgg_agg, asB_bool, obind_some, a2, Nat.beq_refl, when_true]
  generalize hX : LBlk.cells _ 137 false 0 = X
  have hX' : X = .cells (cntCells []) 137 false 0 := by rw [← hX]; rfl
  have hnew : (L1 ++ [X])[L1.length]? = some (.cells (cntCells []) 137 false 0) := by rw [get_new, hX']
  rw [stores_all hnew (by simp [a2])]
  have st : Step [] L [] ((L1 ++ [X]).set L1.length (.cells cs 137 false 0)) := a4.trans (((Step.new [] L1 X).trans (Step.set _ (by simp))).less fun i hi => by simp at hi)
  refine ⟨_, ?_, st⟩
  simp only [obind_some]
  cases hok : okLen zs with
  | false => rw [may_false_of (.inl hok)]; rfl
  | true =>
    simp only [Bool.not_true, lif_false]
    by_cases h512 : 512 < zs.length
    · rw [decide_eq_true (by omega), may_false_of (.inr h512)]; rfl
    · rw [decide_eq_false (by omega), a3 hok]
      exact may_loop hok (by omega) (get_set_self hnew) 15 0 k (by omega) (by omega)
end Go.Proofs.Ytflhogapjmdkaaa.X
end

section
set_option maxRecDepth 100000
set_option linter.unusedVariables false
namespace Go.Proofs.Ytflhogapjmdkaaa.X
open Go Go.Rlm
theorem bytes32 : Proofs.Try.prog.types[56].bytes = 4 := by kernel_rfl
theorem size3 : Proofs.Try.prog.types[3].size = 1 := by kernel_rfl
theorem bytes3 : Proofs.Try.prog.types[3].bytes = 8 := by kernel_rfl
def fcAll (zs : List Int) : List Value := (List.range 16).map fun q => uV (fc zs q)
def fcCells (zs : List Int) (n : Nat) : List Value := (List.range 16).map fun q => if q < n then uV (fc zs q) else uV 0
@[simp] theorem fcCells_length (zs : List Int) (n : Nat) : (fcCells zs n).length = 16 := by simp [fcCells]
@[simp] theorem fcAll_length (zs : List Int) : (fcAll zs).length = 16 := by simp [fcAll]
theorem fcCells_all (zs : List Int) : fcCells zs 16 = fcAll zs := by
  refine List.map_congr_left fun q hq => ?_
  rw [if_pos (List.mem_range.1 hq)]
theorem fcCells_set (zs : List Int) {n : Nat} (h : n < 16) : (fcCells zs n).set n (uV (fc zs n)) = fcCells zs (n + 1) := by
  apply List.ext_getElem?
  intro i
  by_cases hi : i < 16
  · have e : (fcCells zs (n + 1))[i]? = some (if i < n + 1 then uV (fc zs i) else uV 0) := by simp [fcCells, hi]
    rw [e]
    by_cases hn : n = i
    · subst hn
      rw [List.getElem?_set_self (by simp; omega), if_pos (by omega)]
    · rw [List.getElem?_set_ne hn]
      have e2 : (fcCells zs n)[i]? = some (if i < n then uV (fc zs i) else uV 0) := by simp [fcCells, hi]
      rw [e2]
      by_cases h2 : i < n
      · rw [if_pos h2, if_pos (by omega)]
      · rw [if_neg h2, if_neg (by omega)]
  · rw [List.getElem?_eq_none (by simp; omega), List.getElem?_eq_none (by simp; omega)]
theorem firsts_loop {k r0 r1 : Nat} {zs : List Int} (hf : fillTo zs 15 ≤ 32768) (hne : r0 ≠ r1) : ∀ (m n j : Nat) (L : LHeap), n + 1 + m = 16 → m < j → L[r0]? = some (.cells (cntCells zs) 137 false 0) → L[r1]? = some (.cells (fcCells zs (n + 1)) 125 false 0) →
    ∃ L', f83_l3 k j r0 r1 (fc zs (n + 1) : Int) ((n + 1 : Nat) : Int) L = some (.ret (.agg (List.toArray (fcAll zs))) L') ∧ Step [r1] L [] L' := by
  intro m
  induction m with
  | zero =>
    intro n j L hn hj h0 h1
    obtain ⟨j, rfl⟩ : ∃ j', j = j' + 1 := ⟨j - 1, by omega⟩
    obtain rfl : n = 15 := by omega
    refine ⟨L, ?_, (Step.refl [r1] L).less fun i hi => .inr (by simp at hi)⟩
    rw [f83_l3_eq, decide_eq_false (by omega)]
    have h1 : L[r1]? = some (.cells (fcAll zs) 125 false 0) := by rw [← fcCells_all]; exact h1
    simp only [lif_false, cellsAt_all h1 (fcAll_length _), obind_some, fcAll_length, Nat.beq_refl, when_true, stores_all h1 rfl]
    rw [set_same h1]
    simp only [cellsAt_all h1 (fcAll_length _), obind_some]
  | succ m ih =>
    intro n j L hn hj h0 h1
    obtain ⟨j, rfl⟩ : ∃ j', j = j' + 1 := ⟨j - 1, by omega⟩
    rw [f83_l3_eq, decide_eq_true (show ((n + 1 : Nat) : Int) < 16 by omega), decide_eq_true (show (0 : Int) ≤ ((n + 1 : Nat) : Int) by omega)]
    simp only [lif_true, when_true, Int.toNat_natCast, mk_add]
    rw [stores_of h1 (by simp; omega)]
    have hset : setAll (fcCells zs (n + 1)) (0 + (n + 1) * 1) [Value.int .u32 (fc zs (n + 1) : Int)] = fcCells zs (n + 1 + 1) := by
      rw [← fcCells_set zs (show n + 1 < 16 by omega), Nat.zero_add, Nat.mul_one]; rfl
    rw [hset]
    have h0' : (L.set r1 (.cells (fcCells zs (n + 1 + 1)) 125 false 0))[r0]? = some (.cells (cntCells zs) 137 false 0) := by rw [get_set_ne hne.symm, h0]
    have c0 : cell (L.set r1 (.cells (fcCells zs (n + 1 + 1)) 125 false 0)) ⟨r0, 0 + (n + 1) * 1, none⟩ = some (.int .i64 (cnt zs (n + 1) : Int)) := by
      rw [cell_of h0', Nat.zero_add, Nat.mul_one, cntCells_get _ (by omega)]; rfl
    have hle := fc_cnt_le hf (n + 1) (by omega) (by omega)
    have hp : 2 ^ (n + 1) ≤ 2 ^ 15 := Nat.pow_le_pow_right (by omega) (by omega)
    have e1 : IntKind.wrap .u32 (IntKind.wrap .u32 ((fc zs (n + 1) : Int) + IntKind.wrap .u32 (cnt zs (n + 1) : Int)) * 2) = (fc zs (n + 1 + 1) : Int) := by
      rw [show fc zs (n + 1 + 1) = (fc zs (n + 1) + cnt zs (n + 1)) * 2 from rfl]
      rw [wU32 (n := (cnt zs (n + 1) : Int)) (by omega) (by omega), wU32 (n := (fc zs (n + 1) : Int) + (cnt zs (n + 1) : Int)) (by omega) (by omega), wU32] <;> omega
    simp only [obind_some, c0, Option.bind_some, asI_int, e1]
    rw [wI64 (n := ((n + 1 : Nat) : Int) + 1) (by omega) (by omega)]
    obtain ⟨L', r, st⟩ := ih (n + 1) j _ (by omega) (by omega) h0' (get_set_self h1)
    exact ⟨L', r, (Step.set _ (by simp)).trans st⟩
theorem firsts_ok {k : Nat} {zs : List Int} {L : LHeap} (hf : fillTo zs 15 ≤ 32768) (hk : 30 ≤ k) :
    ∃ L', f83 k (List.toArray (cntCells zs)) L = some (.ret (.agg (List.toArray (fcAll zs))) L') ∧ Step [] L [] L' := by
  obtain ⟨k, rfl⟩ : ∃ k', k = k' + 1 := ⟨k - 1, by omega⟩
  rw [f83_eq]
  generalize hX : LBlk.cells _ 125 false 0 = X
  have hX' : X = .cells (fcCells zs 1) 125 false 0 := by rw [← hX]; rfl
  have hlt : L.length < (L ++ [LBlk.cells (cntCells zs) 137 false 0]).length := by simp
  obtain ⟨L', r, st⟩ := firsts_loop (k := k) (r0 := L.length) (r1 := (L ++ [LBlk.cells (cntCells zs) 137 false 0]).length) hf (by omega) 15 0 k (L ++ [LBlk.cells (cntCells zs) 137 false 0] ++ [X]) (by omega) (by omega)
    (by rw [get_push hlt, get_new]) (by rw [get_new, hX'])
  refine ⟨L', r, ((Step.push [] L _).trans ((Step.new [] _ X).trans st)).less fun i hi => by simp at hi⟩
def nextCells (zs : List Int) (i : Nat) : List Value := (List.range 16).map fun q => uV (if q = 0 then 0 else fc zs q + cnt (zs.take i) q)
@[simp] theorem nextCells_length (zs : List Int) (n : Nat) : (nextCells zs n).length = 16 := by simp [nextCells]
theorem nextCells_get (zs : List Int) (i : Nat) {q : Nat} (h : q < 16) (h0 : q ≠ 0) : (nextCells zs i)[q]? = some (uV (fc zs q + cnt (zs.take i) q)) := by simp [nextCells, h, h0]
theorem nextCells_zero (zs : List Int) : nextCells zs 0 = fcAll zs := by
  refine List.map_congr_left fun q hq => ?_
  by_cases h : q = 0
  · subst h; rfl
  · simp [h]
theorem nextCells_same (zs : List Int) {i : Nat} (h : i < zs.length) (hz : zs[i] ≤ 0) : nextCells zs (i + 1) = nextCells zs i := by
  refine List.map_congr_left fun q hq => ?_
  by_cases hq0 : q = 0
  · simp [hq0]
  · rw [if_neg hq0, if_neg hq0, cnt_take_succ h, if_neg (by omega)]; rfl
theorem nextCells_set (zs : List Int) {i : Nat} (h : i < zs.length) (h0 : 0 < zs[i]) (h1 : zs[i] ≤ 15) :
    (nextCells zs i).set zs[i].toNat (uV (fc zs zs[i].toNat + cnt (zs.take i) zs[i].toNat + 1)) = nextCells zs (i + 1) := by
  apply List.ext_getElem?
  intro q
  by_cases hq : q < 16
  · by_cases hz : zs[i].toNat = q
    · rw [hz, List.getElem?_set_self (by simp; omega), nextCells_get _ _ hq (by omega), cnt_take_succ h, if_pos (by omega)]
      rfl
    · rw [List.getElem?_set_ne hz]
      by_cases hq0 : q = 0
      · subst hq0; simp [nextCells]
      · rw [nextCells_get _ _ hq hq0, nextCells_get _ _ hq hq0, cnt_take_succ h, if_neg (by omega)]; rfl
  · rw [List.getElem?_eq_none (by simp; omega), List.getElem?_eq_none (by simp; omega)]
def outCells (zs : List Int) (i : Nat) : List Value := (List.range zs.length).map fun q => if q < i then uV (codeAt zs q) else uV 0
@[simp] theorem outCells_length (zs : List Int) (i : Nat) : (outCells zs i).length = zs.length := by simp [outCells]
theorem outCells_zero (zs : List Int) : outCells zs 0 = List.replicate zs.length (uV 0) := by
  rw [List.eq_replicate_iff]; simp [outCells]
theorem outCells_all (zs : List Int) {i : Nat} (h : zs.length ≤ i) : outCells zs i = (codesOf zs).map uV := by
  rw [codesOf, List.map_map]
  refine List.map_congr_left fun q hq => ?_
  have := List.mem_range.1 hq
  rw [if_pos (by omega)]; rfl
theorem outCells_set (zs : List Int) {i : Nat} (h : i < zs.length) : (outCells zs i).set i (uV (codeAt zs i)) = outCells zs (i + 1) := by
  apply List.ext_getElem?
  intro q
  by_cases hq : q < zs.length
  · have e : ∀ n, (outCells zs n)[q]? = some (if q < n then uV (codeAt zs q) else uV 0) := fun n => by simp [outCells, hq]
    by_cases hi : i = q
    · subst hi
      rw [List.getElem?_set_self (by simpa using hq), e, if_pos (by omega)]
    · rw [List.getElem?_set_ne hi, e, e]
      by_cases h2 : q < i
      · rw [if_pos h2, if_pos (by omega)]
      · rw [if_neg h2, if_neg (by omega)]
  · rw [List.getElem?_eq_none (by simp; omega), List.getElem?_eq_none (by simp; omega)]
theorem outCells_same (zs : List Int) {i : Nat} (h : i < zs.length) (hz : zs[i] ≤ 0) : outCells zs (i + 1) = outCells zs i := by
  refine List.map_congr_left fun q hq => ?_
  by_cases h2 : q < i
  · rw [if_pos h2, if_pos (by omega)]
  · rw [if_neg h2]
    by_cases h3 : q = i
    · subst h3
      rw [if_pos (by omega)]
      unfold codeAt
      rw [List.getD_eq_getElem?_getD, List.getElem?_eq_getElem h, Option.getD_some, if_neg (by omega)]
    · rw [if_neg (by omega)]
theorem codes_loop {k r : Nat} {l s : Sl} {zs : List Int} {A : List Nat} (hm : may zs = true) (hrA : r ∉ A) (hn : l.n = zs.length) :
    ∀ (m i j : Nat) (F : List Nat) (L : LHeap), i + m = zs.length → m < j → L[r]? = some (.cells (nextCells zs i) 125 false 0) → WS L s (outCells zs i) 56 F → r ∉ F → Apart F A → Rd L l (zs.map iV) A →
      ∃ L', f80_l7 k j r s l (l.n : Int) i L = some (.ret (.tuple #[.slice s.a s.n s.c, .int .i64 0]) L') ∧ WS L' s ((codesOf zs).map uV) 56 F ∧ Step (r :: F) L F L' := by
  obtain ⟨hok, h512, hfill⟩ := may_ok hm
  intro m
  induction m with
  | zero =>
    intro i j F L hi hj hr hs hrF hFA hl
    obtain ⟨j, rfl⟩ : ∃ j', j = j' + 1 := ⟨j - 1, by omega⟩
    rw [outCells_all zs (by omega)] at hs
    refine ⟨L, ?_, hs, (Step.refl (r :: F) L).less fun i hi => .inr (by simp [hi])⟩
    rw [f80_l7_eq, decide_eq_false (by omega)]
    rfl
  | succ m ih =>
    intro i j F L hi hj hr hs hrF hFA hl
    obtain ⟨j, rfl⟩ : ∃ j', j = j' + 1 := ⟨j - 1, by omega⟩
    have hiz : i < zs.length := by omega
    obtain ⟨a, a1, a2⟩ := hl.here (i := i) (v := iV zs[i]) (by simp [hiz])
    have hz := okLen_mem hok (List.getElem_mem hiz)
    rw [f80_l7_eq, decide_eq_true (by omega)]
    simp only [lif_true, a1, a2, iV, obind_some, Option.bind_some, asI_int]
    rw [wI64 (n := (i : Int) + 1) (by omega) (by omega)]
    by_cases h0 : zs[i] > 0
    · have hg : zs.getD i 0 = zs[i] := by rw [List.getD_eq_getElem?_getD, List.getElem?_eq_getElem hiz]; rfl
      have hcode : codeAt zs i = fc zs zs[i].toNat + cnt (zs.take i) zs[i].toNat := by unfold codeAt; rw [hg, if_pos (by omega)]
      have hc := codeAt_le hm i
      have c0 : cell L ⟨r, 0 + zs[i].toNat * 1, none⟩ = some (.int .u32 (codeAt zs i : Int)) := by
        rw [cell_of hr, Nat.zero_add, Nat.mul_one, nextCells_get _ _ (by omega) (by omega), hcode]; rfl
      obtain ⟨a', L1, b1, b2, b3, b4⟩ := hs.put (i := i) (by simpa using hiz) (uV (codeAt zs i))
      have hr1 : L1[r]? = some (.cells (nextCells zs i) 125 false 0) := by rw [b4.keep r (get_lt hr) hrF, hr]
      have c1 : cell L1 ⟨r, 0 + zs[i].toNat * 1, none⟩ = some (.int .u32 (codeAt zs i : Int)) := by
        rw [cell_of hr1, Nat.zero_add, Nat.mul_one, nextCells_get _ _ (by omega) (by omega), hcode]; rfl
      rw [decide_eq_true h0, decide_eq_true (show 0 ≤ zs[i] by omega), decide_eq_true (show zs[i] < 16 by omega)]
      have b2 : stores L a' [Value.int .u32 (codeAt zs i : Int)] = some L1 := b2
      simp only [lif_true, when_true, mk_add, c0, Option.bind_some, asI_int, obind_some, b1, b2, c1]
      rw [wU32 (n := (codeAt zs i : Int) + 1) (by omega) (by omega), stores_of hr1 (by simp; omega)]
      have hset : setAll (nextCells zs i) (0 + zs[i].toNat * 1) [Value.int .u32 ((codeAt zs i : Int) + 1)] = nextCells zs (i + 1) := by
        rw [← nextCells_set zs hiz h0 hz.2, Nat.zero_add, Nat.mul_one, ← hcode]; rfl
      rw [hset]
      have hl1 := hl.mono (b4.others hl.within hFA)
      rw [outCells_set zs hiz] at b3
      obtain ⟨L', e1, e2, e3⟩ := ih (i + 1) j F (L1.set r (.cells (nextCells zs (i + 1)) 125 false 0)) (by omega) (by omega) (get_set_self hr1) (b3.mono fun x hx => get_set_ne (fun e => hrF (e ▸ hx))) hrF hFA
        (hl1.mono fun x hx => get_set_ne (fun e => hrA (e ▸ hx)))
      refine ⟨L', e1, e2, ?_⟩
      exact ((b4.mono (fun x hx => by simp [hx])).less (G := r :: F) (fun x hx => .inr hx)).trans ((Step.set _ (by simp)).trans e3)
    · rw [decide_eq_false h0]
      have hs' := hs
      rw [← outCells_same zs hiz (by omega)] at hs'
      exact ih (i + 1) j F L (by omega) (by omega) (by rw [nextCells_same zs hiz (by omega)]; exact hr) hs' hrF hFA hl
def codesRes (zs : List Int) : List Nat := if may zs then codesOf zs else []
def codesErr (zs : List Int) : Int := if may zs then 0 else 4
theorem codes_ok {k : Nat} {l : Sl} {zs : List Int} {A : List Nat} {L : LHeap} (hl : Rd L l (zs.map iV) A) (hs : zs.length < 2 ^ 40) (hk : zs.length + 40 ≤ k) :
    ∃ s L' F, f80 k l L = some (.ret (.tuple #[.slice s.a s.n s.c, .int .i64 (codesErr zs)]) L') ∧ WS L' s ((codesRes zs).map uV) 56 F ∧ Step [] L F L' := by
  obtain ⟨k, rfl⟩ : ∃ k', k = k' + 1 := ⟨k - 1, by omega⟩
  have hn := hl.len
  simp only [List.length_map] at hn
  obtain ⟨L1, a1, a2⟩ := may_okay (k := k) hl (by omega) (by omega)
  rw [f80_eq]
  simp only [a1, lbind_ret, asB_bool, obind_some]
  cases hm : may zs with
  | false => exact ⟨⟨none, 0, 0⟩, L1, [], by rw [codesErr, hm]; rfl, .inl ⟨rfl, by rw [codesRes, hm]; rfl, rfl⟩, a2⟩
  | true =>
    obtain ⟨hok, h512, hfill⟩ := may_ok hm
    have hl1 := hl.mono (a2.others hl.within (none_apart _))
    obtain ⟨L2, cs, b1, b2, b3, b4⟩ := count_ok (k := k) hl1 (by omega) (by omega)
    obtain rfl := b3 hok
    have hl2 := hl1.mono (b4.others hl1.within (none_apart _))
    simp only [Bool.not_true, lif_false, b1, lbind_ret, tupL_tuple, uncons_cons, nilL_nil, asAgg_agg, asB_bool, obind_some, b2, Nat.beq_refl, when_true]
    generalize hX : LBlk.cells _ 137 false 0 = X
    have hX' : X = .cells (cntCells []) 137 false 0 := by rw [← hX]; rfl
    have hnew : (L2 ++ [X])[L2.length]? = some (.cells (cntCells []) 137 false 0) := by rw [get_new, hX']
    rw [stores_all hnew (by simp)]
    have st3 : Step [] L2 [] ((L2 ++ [X]).set L2.length (.cells (cntCells zs) 137 false 0)) := ((Step.new [] L2 X).trans (Step.set _ (by simp))).less fun i hi => by simp at hi
    have hb3 := get_set_self (x := LBlk.cells (cntCells zs) 137 false 0) hnew
    generalize (L2 ++ [X]).set L2.length (.cells (cntCells zs) 137 false 0) = L3 at *
    have hl3 := hl2.mono (st3.others hl2.within (none_apart _))
    simp only [obind_some, cellsAt_all hb3 (cntCells_length zs)]
    obtain ⟨L4, d1, d2⟩ := firsts_ok (k := k) (L := L3) hfill (by omega)
    have hl4 := hl3.mono (d2.others hl3.within (none_apart _))
    simp only [d1, lbind_ret, asAgg_agg, obind_some, fcAll_length, Nat.beq_refl, when_true]
    generalize hY : LBlk.cells _ 125 false 0 = Y
    have hY' : Y = .cells (fcCells zs 0) 125 false 0 := by rw [← hY]; rfl
    have hnew4 : (L4 ++ [Y])[L4.length]? = some (.cells (fcCells zs 0) 125 false 0) := by rw [get_new, hY']
    rw [stores_all hnew4 (by simp)]
    have st5 : Step [] L4 [L4.length] ((L4 ++ [Y]).set L4.length (.cells (fcAll zs) 125 false 0)) := (Step.new [] L4 Y).trans (Step.set _ (by simp))
    have hb5 := get_set_self (x := LBlk.cells (fcAll zs) 125 false 0) hnew4
    generalize (L4 ++ [Y]).set L4.length (.cells (fcAll zs) 125 false 0) = L5 at *
    have hl5 := hl4.mono (st5.others hl4.within (none_apart _))
    have hlt5 := get_lt hb5
    simp only [obind_some, bytes32, hn, room_ok (n := zs.length) (b := 4) (by omega) (by omega), when_true, Int.toNat_natCast]
    have hw := WS.made (L := L5) (n := zs.length) (v := Value.int .u32 0) (e := 56)
    have st6 := Step.new [] L5 (LBlk.cells (List.flatten (List.replicate zs.length [Value.int .u32 0])) 56 false 0)
    generalize L5 ++ [LBlk.cells (List.flatten (List.replicate zs.length [Value.int .u32 0])) 56 false 0] = L6 at *
    have hl6 := hl5.mono (st6.others hl5.within (none_apart _))
    have hb6 : L6[L4.length]? = some (.cells (nextCells zs 0) 125 false 0) := by rw [st6.keep _ hlt5 (by simp), hb5, nextCells_zero]
    have hw' : WS L6 ⟨some ⟨L5.length, 0, none⟩, zs.length, zs.length⟩ (outCells zs 0) 56 [L5.length] := by rw [outCells_zero]; exact hw
    obtain ⟨L7, e1, e2, e3⟩ := codes_loop (k := k) (r := L4.length) hm (fun h => by have := hl4.within _ h; omega) hn zs.length 0 k [L5.length] L6 (by omega) (by omega) hb6 hw' (by simp; omega) (st6.apart hl5.within (none_apart _)) hl6
    rw [hn] at e1
    refine ⟨_, L7, [L5.length], by rw [codesErr, if_pos hm]; exact e1, by rw [codesRes, if_pos hm]; exact e2, ?_⟩
    have p1 : Step [] L [] L4 := a2.trans (b4.trans (st3.trans d2))
    have p2 : Step [] L4 [L4.length, L5.length] L6 := by
      refine ⟨Nat.le_trans st5.len st6.len, fun i hi _ => by rw [st6.keep i (Nat.lt_of_lt_of_le hi st5.len) (by simp), st5.keep i hi (by simp)], fun i hi => ?_⟩
      have := st5.len
      simp at hi
      exact .inr (by omega)
    exact p1.trans (p2.trans e3)
def rOut (zs : List Int) (n i : Nat) : List Value := (List.range zs.length).map fun q => if 0 < zs.getD q 0 ∧ (zs.getD q 0 < (n : Int) ∨ (zs.getD q 0 = (n : Int) ∧ q < i)) then uV (codeAt zs q) else uV 0
@[simp] theorem rOut_length (zs : List Int) (n i : Nat) : (rOut zs n i).length = zs.length := by simp [rOut]
end Go.Proofs.Ytflhogapjmdkaaa.X
end

section
set_option maxRecDepth 100000
set_option linter.unusedVariables false
namespace Go.Proofs.Ytflhogapjmdkaaa.X
open Go Go.Rlm
theorem size95 : Proofs.Try.prog.types[157].size = 3 := by kernel_rfl
theorem bytes95 : Proofs.Try.prog.types[157].bytes = 24 := by kernel_rfl
theorem delete_ok {k : Nat} {s : Sl} {vs : List Value} {F : List Nat} {L : LHeap} (h : OP L s vs 3 F) {i : Nat} (hi : i < vs.length) (hl : vs.length < 2 ^ 40) (hk : 1 ≤ k) :
    ∃ s' L', f102 k s i ((i + 1 : Nat) : Int) L = some (.ret (.slice s'.a s'.n s'.c) L') ∧ OP L' s' (vs.eraseIdx i) 3 F ∧ Step F L F L' := by
  obtain ⟨k, rfl⟩ : ∃ k', k = k' + 1 := ⟨k - 1, by omega⟩
  rcases h with ⟨rfl, rfl, rfl⟩ | ⟨c, rest, rfl, h2, rfl⟩
  · simp at hi
  have hbl : blen L ⟨c, 0, none⟩ 1 = some (vs.length + rest.length) := by
    have := blen_of (o := 0) h2
    simpa using this
  have bO : Nat.blt OPEN OPEN = false := by decide
  have bE : Nat.beq OPEN OPEN = true := Nat.beq_refl _
  have bd : ∀ (i d y : Nat), i ≤ y → bound (some (i : Int)) d y = some i := fun i d y hiy => by
    simp only [bound]
    rw [show (decide ((0 : Int) ≤ (i : Int)) && decide ((i : Int) ≤ (y : Int))) = true by simpa using hiy]
    simp
  have bn : ∀ (d y : Nat), d ≤ y → bound none d y = some d := fun d y hdy => by
    simp only [bound]
    rw [Nat.ble_eq_true_of_le hdy]; rfl
  have cut1 : cut L ⟨some ⟨c, 0, none⟩, vs.length, OPEN⟩ (some (i : Int)) (some ((i + 1 : Nat) : Int)) (some (vs.length : Int)) 1 ≠ none := by
    simp only [cut, bO, bE, cond_true, cond_false, hbl, Option.bind_eq_bind, Option.bind_some, bd vs.length 0 _ (Nat.le_add_right _ _), bd (i + 1) _ _ (show i + 1 ≤ vs.length by omega), bd i 0 _ (show i ≤ i + 1 by omega)]
    rw [if_pos (show vs.length < OPEN by unfold OPEN; omega)]
    simp
  obtain ⟨q1, hq1⟩ := Option.ne_none_iff_exists'.1 cut1
  have cut2 : cut L ⟨some ⟨c, 0, none⟩, vs.length, OPEN⟩ none (some (i : Int)) none 1 = some ⟨some ⟨c, 0, none⟩, i, OPEN⟩ := by
    simp only [cut, bO, bE, cond_true, cond_false, hbl, Option.bind_eq_bind, Option.bind_some, bd i _ _ (show i ≤ vs.length + rest.length by omega), bn 0 _ (Nat.zero_le _)]
    rfl
  have cut3 : ∃ q, cut L ⟨some ⟨c, 0, none⟩, vs.length, OPEN⟩ (some ((i + 1 : Nat) : Int)) none none 1 = some q ∧ q.n = vs.length - (i + 1) ∧ srcOf L 1 q.n (.slice q.a q.n q.c) = some (vs.drop (i + 1)) := by
    simp only [cut, bO, bE, cond_true, cond_false, hbl, Option.bind_eq_bind, Option.bind_some, bn vs.length _ (Nat.le_add_right _ _), bd (i + 1) _ _ (show i + 1 ≤ vs.length by omega)]
    rw [if_neg (by omega)]
    by_cases hlt : i + 1 < vs.length + rest.length
    · rw [if_pos hlt]
      refine ⟨_, rfl, rfl, ?_⟩
      simp only [srcOf, srcCells, mk_add, Nat.mul_one, Nat.zero_add]
      by_cases h0 : vs.length - (i + 1) = 0
      · rw [h0, List.drop_eq_nil_of_le (by omega)]; rfl
      · have hb : Nat.beq (vs.length - (i + 1)) 0 = false := by
          cases hc : Nat.beq (vs.length - (i + 1)) 0 with
          | false => rfl
          | true => exact absurd (Nat.eq_of_beq_eq_true hc) h0
        rw [hb]
        simp only [cond_false, cellsAt, h2]
        rw [Nat.ble_eq_true_of_le (by simp; omega), cond_true]
        refine congrArg some ?_
        rw [List.drop_append_of_le_length (by omega), List.take_append_of_le_length (by simp), List.take_of_length_le (by simp)]
    · rw [if_neg hlt]
      refine ⟨_, rfl, by simp; omega, ?_⟩
      rw [List.drop_eq_nil_of_le (by omega)]
      rfl
  obtain ⟨q3, hq3, hn3, hs3⟩ := cut3
  -- the block behind the copy
  have herase : vs.eraseIdx i = vs.take i ++ vs.drop (i + 1) := List.eraseIdx_eq_take_drop_succ _ _
  have hlen : (vs.take i ++ vs.drop (i + 1)).length = vs.length - 1 := by simp; omega
  have happ : ∃ last L1, app L 3 1 8 ⟨some ⟨c, 0, none⟩, i, OPEN⟩ q3.n (vs.drop (i + 1)) = some (⟨some ⟨c, 0, none⟩, vs.length - 1, OPEN⟩, L1) ∧ L1[c]? = some (.cells (vs.take i ++ vs.drop (i + 1) ++ last :: rest) 3 false 1) ∧ Step [c] L [c] L1 := by
    simp only [app, bO, bE, cond_true, cond_false, hbl, hn3]
    rw [show i + (vs.length - (i + 1)) = vs.length - 1 by omega, Nat.ble_eq_true_of_le (show vs.length - 1 ≤ vs.length + rest.length by omega), cond_true]
    by_cases h0 : i + 1 = vs.length
    · rw [List.drop_eq_nil_of_le (by omega)]
      refine ⟨vs[i], L, rfl, ?_, .refl _ _⟩
      have hv : vs = vs.take i ++ [vs[i]] := by
        conv => lhs; rw [← List.take_length (l := vs), ← h0, List.take_succ_eq_append_getElem hi]
      have hx : vs ++ rest = vs.take i ++ [] ++ vs[i] :: rest := (congrArg (· ++ rest) hv).trans (by simp only [List.append_assoc, List.singleton_append, List.append_nil])
      rw [h2, hx]
    · have hem : (vs.drop (i + 1)).isEmpty = false := by
        cases hd : vs.drop (i + 1) with
        | nil => have := congrArg List.length hd; simp at this; omega
        | cons x xs => rfl
      rw [hem, cond_false]
      simp only [mk_add, Nat.zero_add, Nat.mul_one]
      rw [stores_of h2 (by simp; omega)]
      have hlast : vs.length - 1 < vs.length := by omega
      refine ⟨vs[vs.length - 1], _, rfl, ?_, .set _ (by simp)⟩
      have hsplit : vs = vs.take i ++ ((vs.drop i).take (vs.length - (i + 1)) ++ [vs[vs.length - 1]]) := by
        have h1 : vs = vs.take (vs.length - 1) ++ [vs[vs.length - 1]] := by
          conv => lhs; rw [← List.take_length (l := vs), show vs.length = vs.length - 1 + 1 by omega]
          rw [List.take_succ_eq_append_getElem hlast]
        have h3 : vs.take (vs.length - 1) = vs.take i ++ (vs.drop i).take (vs.length - (i + 1)) := by
          rw [← List.take_add, show i + (vs.length - (i + 1)) = vs.length - 1 by omega]
        rw [← List.append_assoc, ← h3]; exact h1
      have hA : (vs.take i).length = i := by simp; omega
      have := setAll_append (vs.take i) ([vs[vs.length - 1]] ++ rest) (vs.drop (i + 1)) ((vs.drop i).take (vs.length - (i + 1))) (by simp; omega)
      rw [hA] at this
      have he : vs ++ rest = vs.take i ++ (vs.drop i).take (vs.length - (i + 1)) ++ ([vs[vs.length - 1]] ++ rest) := (congrArg (· ++ rest) hsplit).trans (by simp only [List.append_assoc])
      have hx : setAll (vs ++ rest) i (vs.drop (i + 1)) = vs.take i ++ vs.drop (i + 1) ++ vs[vs.length - 1] :: rest := by
        rw [he, this]
        simp
      rw [hx, get_set_self h2]
  obtain ⟨last, L1, g1, g2, g3⟩ := happ
  have hbl1 : blen L1 ⟨c, 0, none⟩ 1 = some (vs.length + rest.length) := by
    have := blen_of (o := 0) g2
    rw [this]
    simp
    omega
  have cut4 : ∃ q, cut L1 ⟨some ⟨c, 0, none⟩, vs.length - 1, OPEN⟩ (some ((vs.length - 1 : Nat) : Int)) (some (vs.length : Int)) none 1 = some q ∧ q.n = 1 ∧ q.a = some ⟨c, vs.length - 1, none⟩ := by
    simp only [cut, bO, bE, cond_true, cond_false, hbl1, Option.bind_eq_bind, Option.bind_some, bd vs.length _ _ (Nat.le_add_right _ _), bd (vs.length - 1) _ _ (show vs.length - 1 ≤ vs.length by omega)]
    by_cases h0 : vs.length - 1 = 0
    · rw [if_pos h0]
      exact ⟨_, rfl, by simp; omega, by rw [h0]⟩
    · rw [if_neg h0, if_pos (by omega)]
      exact ⟨_, rfl, by simp; omega, by simp⟩
  obtain ⟨q4, hq4, hn4, ha4⟩ := cut4
  refine ⟨⟨some ⟨c, 0, none⟩, vs.length - 1, OPEN⟩, L1.set c (.cells (vs.take i ++ vs.drop (i + 1) ++ .int .i64 0 :: rest) 3 false 1), ?_, .inr ⟨c, .int .i64 0 :: rest, by rw [herase, hlen], by rw [get_set_self g2, herase], rfl⟩, g3.trans (.set _ (by simp))⟩
  rw [f102_eq]
  have hne : ((i : Int) == ((i + 1 : Nat) : Int)) = false := by simp; omega
  simp only [hq1, hq3, cut2, obind_some, hne, lif_false, size3, bytes3, hs3, g1, hq4, hn4]
  have hlc : lcopy L1 q4 1 [Value.int IntKind.i64 0].length (List.flatten (List.replicate 1 [Value.int IntKind.i64 0])) = some (L1.set c (.cells (vs.take i ++ vs.drop (i + 1) ++ .int .i64 0 :: rest) 3 false 1)) := by
    simp only [lcopy, ha4]
    rw [show (Nat.beq 1 0 || Nat.beq [Value.int IntKind.i64 0].length 0) = false from rfl, cond_false]
    simp only [List.replicate_one, List.flatten_cons, List.flatten_nil, List.append_nil]
    rw [stores_of g2 (by simp; omega)]
    have := setAll_append (vs.take i ++ vs.drop (i + 1)) rest [Value.int IntKind.i64 0] [last] rfl
    rw [hlen] at this
    simp only [List.append_assoc, List.singleton_append] at this
    simp only [List.append_assoc]
    rw [this]
  rw [hlc]
  rfl
end Go.Proofs.Ytflhogapjmdkaaa.X
end

/- The logical machine and the model: a region that leaves its order open: every order is followed. -/
import Derived.Test.YtlcchghlhfamjaaRlmS16
namespace Go.Rlm

section
variable {P : Program} {r : LR} {call : Caller} {ops : Array Oper} {tr : List Rec} {env0 e' : Env} {L0 L' : LHeap} {m0 : RMap} {w0 : World} {ds : List Deferred} {N : Nat}

theorem getD_true {listed : Array Bool} {j : Nat} (hj : j < listed.size) (h : listed.getD j true = false) : listed[j]? = some false := by
  rw [Array.getElem?_eq_getElem hj]
  simp [Array.getD, hj] at h
  rw [h]

theorem getD_false {listed : Array Bool} {j : Nat} (h : listed.getD j false = true) : listed[j]? = some true := by
  rcases Nat.lt_or_ge j listed.size with hj | hj
  · rw [Array.getElem?_eq_getElem hj]
    simp [Array.getD, hj] at h
    rw [h]
  · simp [Array.getD, Nat.not_lt.2 hj] at h

/-- What an operation that may come up sees. -/
theorem Inv.sees (hS : Setting P call ops tr env0 L0 e' L') {listed : Array Bool} {a : Act} {j : Nat} {o : Oper} {rc : Rec} (ho : ops[j]? = some o) (hrc : tr[j]? = some rc) (hrce : envAt tr e' j = rc.env)
    (hj : listed[j]? = some false) (hdeps : ∀ i, bef ops j i = true → listed[i]? = some true) (hdown : ∀ j i, listed[j]? = some true → bef ops j i = true → listed[i]? = some true) {m : RMap}
    (v1 : ∀ (t i : Nat) (rc : Rec) (o : Oper), tr[i]? = some rc → ops[i]? = some o → listed[i]? = some true → o.dst = some t → (∀ (k : Nat) (o' : Oper), i < k → ops[k]? = some o' → listed[k]? = some true → o'.dst ≠ some t) → ∃ v', a.tmps[t]? = some v' ∧ VR m rc.v v')
    (v2 : ∀ t : Nat, (∀ (k : Nat) (o' : Oper), ops[k]? = some o' → listed[k]? = some true → o'.dst ≠ some t) → ∀ v, look env0 t = some v → ∃ v', a.tmps[t]? = some v' ∧ VR m v v') :
    ER m (res rc.env (tmpsOf ops.toList o)) a.tmps := by
  have hjs := (Array.getElem?_eq_some_iff.1 ho).1
  have notLater : ∀ (k : Nat) (o' : Oper) (t : Nat), t ∈ tmpsOf ops.toList o → ops[k]? = some o' → o'.dst = some t → listed[k]? = some true → k < j := fun k o' t ht hk hd hl => by
    rcases Nat.lt_trichotomy k j with h | h | h
    · exact h
    · subst h; rw [hj] at hl; cases hl
    · have := hS.order hk ho (by omega) hd (.inl ht)
      rw [Nat.max_eq_left (by omega), Nat.min_eq_right (by omega)] at this
      have := hdown k j hl this
      rw [hj] at this; cases this
  intro t v hv
  rw [look_res] at hv
  split at hv
  case isFalse => cases hv
  rename_i ht
  rw [← hrce] at hv
  rcases hS.env_look t j (by omega) with ⟨i, oi, rci, g1, g2, g3, g4, g5, g6⟩ | ⟨g1, g2⟩
  · rw [g6] at hv
    injection hv with hv
    subst hv
    have hb := hS.order g2 ho (by omega) g4 (.inl ht)
    rw [Nat.max_eq_right (by omega), Nat.min_eq_left (by omega)] at hb
    refine v1 t i rci oi g3 g2 (hdeps i hb) g4 fun k o' h1 h2 h3 h4 => ?_
    exact g5 k o' h1 (notLater k o' t ht h2 h4 h3) h2 h4
  · rw [g2] at hv
    refine v2 t (fun k o' h2 h3 h4 => ?_) v hv
    exact g1 k o' (notLater k o' t ht h2 h4 h3) h2 h4

/-- One more operation. -/
theorem Inv.step (hS : Setting P call ops tr env0 L0 e' L') {listed : Array Bool} {a : Act} {w : World} (hI : Inv P ops tr env0 L0 L' m0 w0 ds N listed a w) {j : Nat} {o : Oper} {rc : Rec} (ho : ops[j]? = some o) (hrc : tr[j]? = some rc)
    (hj : listed[j]? = some false) (hdeps : ∀ i, bef ops j i = true → listed[i]? = some true) (hdst : ∀ d, o.dst = some d → d < N)
    {m m' : RMap} {p p' : Nat} {w' : World} {v' : Value} (hp' : p' ≤ ops.size) (hext : MExt m m')
    (hw1 : ∀ (q : Nat) (rc : Rec), q < p' → tr[q]? = some rc → rc.t = 3 → (q = j ∨ listed[q]? = some true)) (hw2 : ∀ (q : Nat) (rc : Rec), p' ≤ q → tr[q]? = some rc → rc.t = 3 → q ≠ j ∧ listed[q]? = some false)
    (hr : Rep P m' (heapAt tr L' p') w') (ht : Tr m0 L0 w0 m' (heapAt tr L' p') w') (hv : VR m' rc.v v')
    (v1 : ∀ (t i : Nat) (rc : Rec) (o : Oper), tr[i]? = some rc → ops[i]? = some o → listed[i]? = some true → o.dst = some t → (∀ (k : Nat) (o' : Oper), i < k → ops[k]? = some o' → listed[k]? = some true → o'.dst ≠ some t) → ∃ v', a.tmps[t]? = some v' ∧ VR m rc.v v')
    (v2 : ∀ t : Nat, (∀ (k : Nat) (o' : Oper), ops[k]? = some o' → listed[k]? = some true → o'.dst ≠ some t) → ∀ v, look env0 t = some v → ∃ v', a.tmps[t]? = some v' ∧ VR m v v') :
    Inv P ops tr env0 L0 L' m0 w0 ds N (listed.setIfInBounds j true) (a.put o.dst v') w' := by
  have hjs := (Array.getElem?_eq_some_iff.1 ho).1
  have hjl : j < listed.size := by rw [hI.sz]; exact hjs
  have notLater : ∀ (k : Nat) (o' : Oper) (t : Nat), o.dst = some t → ops[k]? = some o' → o'.dst = some t → listed[k]? = some true → k < j := fun k o' t hd0 hk hd hl => by
    rcases Nat.lt_trichotomy k j with h | h | h
    · exact h
    · subst h; rw [hj] at hl; cases hl
    · have := hS.order hk ho (by omega) hd (.inr hd0)
      rw [Nat.max_eq_left (by omega), Nat.min_eq_right (by omega)] at this
      have := hI.down k j hl this
      rw [hj] at this; cases this
  have tmpOther : ∀ t, o.dst ≠ some t → (a.put o.dst v').tmps[t]? = a.tmps[t]? := fun t hne => by
    cases hd : o.dst with
    | none => rfl
    | some d =>
      have : d ≠ t := fun e => hne (by rw [hd, e])
      simp [Act.put, Array.getElem?_setIfInBounds_ne this]
  have tmpSelf : ∀ t, o.dst = some t → (a.put o.dst v').tmps[t]? = some v' := fun t hd => by
    have := hdst t hd
    rw [hd]
    simp only [Act.put]
    rw [Array.getElem?_setIfInBounds, if_pos rfl, if_pos (by rw [hI.size]; exact this)]
  refine ⟨by simpa using hI.sz, fun k i hk hb => ?_, ⟨m', p', hp', fun q rq h1 h2 h3 => ?_, fun q rq h1 h2 h3 => ?_, hr, ht, fun t i rci oi h1 h2 h3 h4 h5 => ?_, fun t h1 v hv2 => ?_⟩, by rw [put_defers]; exact hI.defers, by rw [put_size]; exact hI.size⟩
  · rw [listed_set hjl] at hk ⊢
    rcases hk with rfl | hk
    · exact .inr (hdeps i hb)
    · exact .inr (hI.down k i hk hb)
  · rw [listed_set hjl]; exact hw1 q rq h1 h2 h3
  · rw [listed_set_false hjl]; exact hw2 q rq h1 h2 h3
  · rw [listed_set hjl] at h3
    by_cases hd : o.dst = some t
    · rw [tmpSelf t hd]
      rcases h3 with rfl | h3
      · rw [hrc] at h1; injection h1 with h1; subst h1
        exact ⟨v', rfl, hv⟩
      · have := notLater i oi t hd h2 h4 h3
        exact absurd hd (h5 j o this ho ((listed_set hjl).2 (.inl rfl)))
    · rw [tmpOther t hd]
      rcases h3 with rfl | h3
      · rw [ho] at h2; injection h2 with h2; subst h2
        exact absurd h4 hd
      · obtain ⟨x, g1, g2⟩ := v1 t i rci oi h1 h2 h3 h4 fun k o' k1 k2 k3 => h5 k o' k1 k2 ((listed_set hjl).2 (.inr k3))
        exact ⟨x, g1, g2.mono hext⟩
  · have hd : o.dst ≠ some t := h1 j o ho ((listed_set hjl).2 (.inl rfl))
    rw [tmpOther t hd]
    obtain ⟨x, g1, g2⟩ := v2 t (fun k o' k2 k3 => h1 k o' k2 ((listed_set hjl).2 (.inr k3))) v hv2
    exact ⟨x, g1, g2.mono hext⟩

/-- In whatever heap it comes up, a reading operation yields what it yielded in the text's order. -/
theorem Inv.reads (hS : Setting P call ops tr env0 L0 e' L') {listed : Array Bool} {j : Nat} {o : Oper} {rc : Rec} (ho : ops[j]? = some o) (hrc : tr[j]? = some rc) (hj : listed[j]? = some false)
    (hdeps : ∀ i, bef ops j i = true → listed[i]? = some true) (hdown : ∀ j i, listed[j]? = some true → bef ops j i = true → listed[i]? = some true) {p : Nat} (hp : p ≤ ops.size)
    (w1 : ∀ (q : Nat) (rc : Rec), q < p → tr[q]? = some rc → rc.t = 3 → listed[q]? = some true) (w2 : ∀ (q : Nat) (rc : Rec), p ≤ q → tr[q]? = some rc → rc.t = 3 → listed[q]? = some false)
    (h2 : rc.t = 2) (hv : Val P o rc.env rc.L rc.v) (hL : rc.L' = rc.L) (h4 : heapAt tr L' j = rc.L) (h6 : heapAt tr L' (j + 1) = rc.L') : Val P o rc.env (heapAt tr L' p) rc.v := by
  have hjs := (Array.getElem?_eq_some_iff.1 ho).1
  have ho' : ops.toList[j]? = some o := by simpa using ho
  have oper : ∀ q rq, tr[q]? = some rq → ∃ oq, ops[q]? = some oq := fun q rq hq => by
    have := (List.getElem?_eq_some_iff.1 hq).1
    rw [hS.len] at this
    exact ⟨ops[q], Array.getElem?_eq_getElem this⟩
  rcases Nat.lt_or_ge j p with hlt | hge
  · -- writes between j and p have come up
    by_cases hex : ∃ q rq, j < q ∧ q < p ∧ tr[q]? = some rq ∧ rq.t = 3
    · -- the last one
      have : ∃ q rq, j < q ∧ q < p ∧ tr[q]? = some rq ∧ rq.t = 3 ∧ ∀ k rk, q < k → k < p → tr[k]? = some rk → rk.t ≠ 3 := by
        clear hv
        induction p with
        | zero => omega
        | succ p ih =>
          obtain ⟨q, rq, g1, g2, g3, g4⟩ := hex
          by_cases hpp : ∃ rp, tr[p]? = some rp ∧ rp.t = 3 ∧ j < p
          · obtain ⟨rp, k1, k2, k3⟩ := hpp
            exact ⟨p, rp, k3, by omega, k1, k2, fun k rk h1 h2 => by omega⟩
          · have hqp : q < p := by
              rcases Nat.lt_or_ge q p with h | h
              · exact h
              · have : q = p := by omega
                subst this
                exact absurd ⟨rq, g3, g4, g1⟩ hpp
            obtain ⟨q', rq', k1, k2, k3, k4, k5⟩ := ih (by omega) (fun q rc h1 h2 h3 => w1 q rc (by omega) h2 h3) (fun q rc h1 h2 h3 => by
              rcases Nat.lt_or_ge p q with h | h
              · exact w2 q rc (by omega) h2 h3
              · have : q = p := by omega
                subst this
                exact absurd ⟨rc, h2, h3, by omega⟩ hpp) (by omega) ⟨q, rq, g1, hqp, g3, g4⟩
            refine ⟨q', rq', k1, by omega, k3, k4, fun k rk h1 h2 h3 h4 => ?_⟩
            rcases Nat.lt_or_ge k p with h | h
            · exact k5 k rk h1 h h3 h4
            · have : k = p := by omega
              subst this
              exact hpp ⟨rk, h3, h4, by omega⟩
      obtain ⟨q, rq, g1, g2, g3, g4, g5⟩ := this
      obtain ⟨oq, hoq⟩ := oper q rq g3
      obtain ⟨rq', k1, _, _, _, _, k6⟩ := hS.recd hoq
      rw [g3] at k1; injection k1 with k1; subst k1
      have hb : tbit ((befores ops.toList []).getD q 0) j = false := by
        cases hb : tbit ((befores ops.toList []).getD q 0) j with
        | false => rfl
        | true =>
          have := hdown q j (w1 q rq g2 g3 g4) hb
          rw [hj] at this; cases this
      have hval := (hS.trc.pairs j q rc rq o oq g1 hrc g3 ho' (by simpa using hoq)).2.2 h2 g4 (by simpa using hb)
      have hsame := hS.heap_same (p - (q + 1)) (q + 1) (by omega) fun k rk h1 h2 h3 => g5 k rk (by omega) (by omega) h3
      rw [show q + 1 + (p - (q + 1)) = p by omega, k6] at hsame
      rw [hsame]; exact hval
    · have hsame := hS.heap_same (p - (j + 1)) (j + 1) (by omega) fun k rk h1 h2 h3 h4 => hex ⟨k, rk, by omega, by omega, h3, h4⟩
      rw [show j + 1 + (p - (j + 1)) = p by omega, h6, hL] at hsame
      rw [hsame]; exact hv
  · -- writes between p and j have not come up
    by_cases hex : ∃ q rq, p ≤ q ∧ q < j ∧ tr[q]? = some rq ∧ rq.t = 3
    · have : ∃ q rq, p ≤ q ∧ q < j ∧ tr[q]? = some rq ∧ rq.t = 3 ∧ ∀ k rk, p ≤ k → k < q → tr[k]? = some rk → rk.t ≠ 3 := by
        obtain ⟨q, hq⟩ := hex
        induction q using Nat.strongRecOn with
        | _ q ih =>
          obtain ⟨rq, g1, g2, g3, g4⟩ := hq
          by_cases hs : ∃ k, k < q ∧ ∃ rk, p ≤ k ∧ k < j ∧ tr[k]? = some rk ∧ rk.t = 3
          · obtain ⟨k, hk, hk2⟩ := hs
            exact ih k hk hk2
          · exact ⟨q, rq, g1, g2, g3, g4, fun k rk h1 h2 h3 h4 => hs ⟨k, h2, rk, h1, by omega, h3, h4⟩⟩
      obtain ⟨q, rq, g1, g2, g3, g4, g5⟩ := this
      obtain ⟨oq, hoq⟩ := oper q rq g3
      obtain ⟨rq', k1, _, _, k4, _, _⟩ := hS.recd hoq
      rw [g3] at k1; injection k1 with k1; subst k1
      have hb : tbit ((befores ops.toList []).getD j 0) q = false := by
        cases hb : tbit ((befores ops.toList []).getD j 0) q with
        | false => rfl
        | true =>
          have h8 := hdeps q hb
          rw [w2 q rq g1 g3 g4] at h8; cases h8
      have hval := (hS.trc.pairs q j rq rc oq o g2 g3 hrc (by simpa using hoq) ho').2.1 g4 h2 (by simpa using hb)
      have hsame := hS.heap_same (q - p) p (by omega) fun k rk h1 h2 h3 => g5 k rk h1 (by omega) h3
      rw [show p + (q - p) = q by omega, k4] at hsame
      rw [← hsame]; exact hval
    · have hsame := hS.heap_same (j - p) p (by omega) fun k rk h1 h2 h3 h4 => hex ⟨k, rk, h1, by omega, h3, h4⟩
      rw [show p + (j - p) = j by omega, h4] at hsame
      rw [← hsame]; exact hv

/-- **Every order is followed.** -/
theorem any_ok (hc : CallOk P call) (hS : Setting P call ops tr env0 L0 e' L') (hd : dstOk N ops.toList = true) {Q : Exit → Act → World → Prop}
    (fin : ∀ m w a, Rep P m L' w → Tr m0 L0 w0 m L' w → ER m e' a.tmps → a.defers = ds → a.tmps.size = N → Q .normal a w) :
    ∀ (fuel : Nat) (listed : Array Bool) (a : Act) (w : World), Inv P ops tr env0 L0 L' m0 w0 ds N listed a w → listed.toList.count false ≤ fuel → wpAny P .any ops Q fuel listed a w := by
  have hdst : ∀ (j : Nat) (o : Oper), ops[j]? = some o → ∀ d, o.dst = some d → d < N := fun j o ho d hdd => by
    have := List.all_eq_true.1 hd o (by rw [← Array.mem_def]; exact Array.mem_of_getElem? ho)
    rw [hdd] at this
    simpa using this
  have over : ∀ (listed : Array Bool) (a : Act) (w : World), Inv P ops tr env0 L0 L' m0 w0 ds N listed a w → Region.ready .any ops listed = [] → Q .normal a w := fun listed a w hI hnil => by
    have all : ∀ j, j < ops.size → listed[j]? = some true := fun j => by
      induction j using Nat.strongRecOn with
      | _ j ih =>
        intro hj
        rcases listed_cases (listed := listed) (k := j) (by rw [hI.sz]; exact hj) with h | h
        · exact h
        · exfalso
          have : j ∈ Region.ready .any ops listed := by
            rw [mem_ready]
            have hjl : j < listed.size := by rw [hI.sz]; exact hj
            refine ⟨?_, ops[j], by simp, fun e he hb => ?_⟩
            · rw [Array.getElem?_eq_getElem hjl] at h
              injection h with h
              simp [Array.getD, hjl, h]
            · have hlt := hS.back (j := j) (o := ops[j]) (by simp) he hb
              have := ih e.on hlt (by omega)
              have hel : e.on < listed.size := by rw [hI.sz]; omega
              rw [Array.getElem?_eq_getElem hel] at this
              injection this with this
              simp [Array.getD, hel, this]
          rw [hnil] at this
          cases this
    obtain ⟨m, p, hp, w1, w2, hr, ht, v1, v2⟩ := hI.state
    have hsame := hS.heap_same (ops.size - p) p (by omega) fun q rq h1 h2 h3 h4 => by
      have g1 := w2 q rq h1 h3 h4
      rw [all q (by omega)] at g1; cases g1
    rw [show p + (ops.size - p) = ops.size by omega, hS.final.2] at hsame
    rw [← hsame] at hr ht
    refine fin m w a hr ht (fun t v hv => ?_) hI.defers hI.size
    rw [← hS.final.1] at hv
    rcases hS.env_look t ops.size (Nat.le_refl _) with ⟨i, oi, rci, g1, g2, g3, g4, g5, g6⟩ | ⟨g1, g2⟩
    · rw [g6] at hv
      injection hv with hv
      subst hv
      exact v1 t i rci oi g3 g2 (all i g1) g4 fun k o' h1 h2 _ => g5 k o' h1 (Array.getElem?_eq_some_iff.1 h2).1 h2
    · rw [g2] at hv
      exact v2 t (fun k o' h2 _ => g1 k o' (Array.getElem?_eq_some_iff.1 h2).1 h2) v hv
  intro fuel
  induction fuel with
  | zero =>
    intro listed a w hI hcnt
    have hnil : Region.ready .any ops listed = [] := by
      cases hr : Region.ready .any ops listed with
      | nil => rfl
      | cons j l =>
        have hm : j ∈ Region.ready .any ops listed := by rw [hr]; simp
        obtain ⟨h1, o, h2, _⟩ := mem_ready.1 hm
        have hjl : j < listed.size := by rw [hI.sz]; exact (Array.getElem?_eq_some_iff.1 h2).1
        have h3 := getD_true hjl h1
        have : false ∈ listed.toList := by rw [← Array.mem_def]; exact Array.mem_of_getElem? h3
        have := List.count_pos_iff.2 this
        omega
    exact ⟨hnil, over listed a w hI hnil⟩
  | succ fuel ih =>
    intro listed a w hI hcnt
    refine ⟨over listed a w hI, fun j hjr => ?_⟩
    obtain ⟨h1, o, ho, hall⟩ := mem_ready.1 hjr
    have hjs := (Array.getElem?_eq_some_iff.1 ho).1
    have hjl : j < listed.size := by rw [hI.sz]; exact hjs
    have hj := getD_true hjl h1
    have hdeps : ∀ i, bef ops j i = true → listed[i]? = some true := fun i hb => by
      obtain ⟨e, g1, g2, g3⟩ := bef_get (ops := ops.toList) (j := j) (by simpa using ho) hb
      have g4 := getD_false (hall e (by simpa using g1) g2)
      rcases g3 with rfl | g3
      · exact g4
      · exact hI.down e.on i g4 g3
    have hcnt' : (listed.setIfInBounds j true).toList.count false ≤ fuel := by
      have hjl' : j < listed.toList.length := by simpa using hjl
      have e1 : (listed.setIfInBounds j true).toList = listed.toList.set j true := by simp
      have e2 : listed.toList[j] = false := by
        rw [Array.getElem?_eq_getElem hjl] at hj
        exact Option.some.inj hj
      have h0 : 0 < listed.toList.count false := List.count_pos_iff.2 (by rw [← e2]; exact List.getElem_mem _)
      have e3 := List.count_set (a := true) (b := false) hjl'
      rw [e2] at e3
      rw [e1, e3]
      have e4 : (if ((false : Bool) == false) = true then 1 else 0) = 1 := rfl
      have e5 : (if ((true : Bool) == false) = true then 1 else 0) = 0 := rfl
      omega
    obtain ⟨rc, hrc, hloc, henv, hheap, _, hheap2⟩ := hS.recd ho
    obtain ⟨m, p, hp, w1, w2, hr, ht, v1, v2⟩ := hI.state
    have hER := Inv.sees hS ho hrc henv hj hdeps hI.down v1 v2
    unfold wpOp
    rw [ho]
    simp only
    -- an operation that leaves the heap alone
    have quiet : rc.t ≠ 3 → ∀ v' : Value, VR m rc.v v' → wpAny P .any ops Q fuel (listed.setIfInBounds j true) (a.put o.dst v') w := fun hne v' hv => by
      have k1 : ∀ (q : Nat) (rq : Rec), p ≤ q → tr[q]? = some rq → rq.t = 3 → q ≠ j ∧ listed[q]? = some false := fun q rq h1 h2 h3 => by
        refine ⟨fun e => ?_, w2 q rq h1 h2 h3⟩
        rw [e, hrc] at h2
        have h2 := Option.some.inj h2
        exact hne (by rw [h2]; exact h3)
      exact ih _ _ _ (Inv.step hS hI ho hrc hj hdeps (hdst j o ho) (p := 0) hp (.refl m) (fun q rq h1 h2 h3 => .inr (w1 q rq h1 h2 h3)) k1 hr ht hv v1 v2) hcnt'
    have quiet2 : rc.t ≠ 3 → kindOf P o.op ≠ .write → Val P o rc.env (heapAt tr L' p) rc.v → o.wp P a w (wpAny P .any ops Q fuel (listed.setIfInBounds j true)) Q := fun hne hk hv => by
      have hv' : Val P o (res rc.env (tmpsOf ops.toList o)) (heapAt tr L' p) rc.v := fun K2 => by rw [lop_res]; exact hv K2
      obtain ⟨v', g1, g2⟩ := hv'.quiet hk m w a hr hER
      unfold Oper.wp
      rcases g1 with g1 | ⟨g1, rfl⟩
      · rw [g1]; exact quiet hne v' g2
      · rw [g1]; exact quiet hne _ g2
    have hwant : ∀ b, wants ops.toList rc.env o = some b → Region.wanted o (yielded ops a.tmps) = b := fun b hb => wants_ok hER (by rw [wants_res]; exact hb)
    rcases hloc with ⟨h2, h3, h4, h5⟩ | ⟨h2, h3, h4, h5, h6⟩ | ⟨h2, h3, h4, h5, h6⟩ | ⟨h2, h3, h4, h5⟩
    · rw [if_neg (by rw [hwant _ h3]; simp)]
      exact quiet (by omega) Go.undef (by rw [h4]; exact .undef)
    · rw [if_pos (hwant _ h3)]
      exact .inl (quiet2 (by omega) (by rw [h4]; intro h; cases h) (h6 _))
    · rw [if_pos (hwant _ h3)]
      exact .inl (quiet2 (by omega) (by rw [h4]; intro h; cases h) (Inv.reads hS ho hrc hj hdeps hI.down hp w1 w2 h2 h6 h5 hheap hheap2))
    · rw [if_pos (hwant _ h3)]
      -- no write between p and j
      have hpj : p ≤ j := by
        rcases Nat.lt_or_ge j p with h | h
        · have g1 := w1 j rc h hrc h2
          rw [hj] at g1; cases g1
        · exact h
      have earlier : ∀ q rq, q < j → tr[q]? = some rq → rq.t = 3 → listed[q]? = some true := fun q rq hq g1 g2 => by
        have hoq : ∃ oq, ops[q]? = some oq := ⟨ops[q], by simp⟩
        obtain ⟨oq, hoq⟩ := hoq
        have := (hS.trc.pairs q j rq rc oq o hq g1 hrc (by simpa using hoq) (by simpa using ho)).1 g2 h2
        exact hdeps q (by show tbit ((befores ops.toList []).getD j 0) q = true; simpa using this)
      have hsame := hS.heap_same (j - p) p (by omega) fun q rq g1 g2 g3 g4 => by
        have k1 := earlier q rq (by omega) g3 g4
        rw [w2 q rq g1 g3 g4] at k1; cases k1
      rw [show p + (j - p) = j by omega, hheap] at hsame
      rw [← hsame] at hr ht
      refine .inl (lstepD_ok hc (env := res rc.env (tmpsOf ops.toList o)) (fun K2 => by rw [lstepD_res]; exact h5 K2) hr hER fun m' w' v' g1 g2 g3 => ?_)
      refine ih _ _ _ (Inv.step hS hI ho hrc hj hdeps (hdst j o ho) (m := m) (p := 0) (p' := j + 1) (by omega) g3.ext (fun q rq k1 k2 k3 => ?_) (fun q rq k1 k2 k3 => ?_) (by rw [hheap2]; exact g2) (by rw [hheap2]; exact ht.trans g3) g1 v1 v2) hcnt'
      · rcases Nat.lt_or_ge q j with h | h
        · exact .inr (earlier q rq h k2 k3)
        · exact .inl (by omega)
      · refine ⟨by omega, w2 q rq (by omega) k2 k3⟩

end
end Go.Rlm

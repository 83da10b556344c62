/- The logical machine and the model: what a statement's walk asks. -/
import Derived.Test.YtlcchghlhfamjaaRlmS18
import Derived.Below
namespace Go.Rlm

/-- **From the machine's run to the walk**: no block of the machine's own at the start. -/
theorem law_walk {P : Program} {T : Nat → Nat → List Nat} (hm : P.follows .mixedOrders = true) (hn : P.funcs.all (fun fn => !(fn.name == "runtime.NumGoroutine")) = true)
    {n f : Nat} {args args' : List Value} {L L' : LHeap} {m : RMap} {w : World} {b : Bool} (h : lcall P T n f args L = some (.ret (.bool b) L')) (hr : Rep P m L w) (hv : VRs m args args')
    (ho : ∀ r, ¬ own L r) : Calls P f ⟨args'⟩ w fun e w' => e = .returned (.bool b) ∧ Go.RowKit.Below w.heap.size w w' := by
  refine ((lcall_ok hm hn n).calls f args L _ h m w args' hr hv).mono fun e w' he => ?_
  obtain ⟨m', v', h1, h2, h3, h4⟩ := he
  refine ⟨by rw [h1, h2.of_bool], h4.os, h4.tape, h4.output, h4.size, fun k hk => h4.frame k hk fun r i hr => absurd hr (ho r)⟩

/-- Nothing there. -/
theorem Rep.empty {P : Program} {w : World} : Rep P (fun _ => none) [] w :=
  ⟨fun _ _ => rfl, fun r cs e ro sp h => by simp at h, fun r r' i i' h => by obtain ⟨cs, e, sp, h⟩ := h; simp at h⟩

theorem own_nil {r : Nat} : ¬ own [] r := fun ⟨cs, e, sp, h⟩ => by simp at h

/-- Does the run tell true? -/
def told (r : R) : Bool :=
  match r with
  | some (.ret (.bool b) _) => b
  | _ => false

theorem told_true {r : R} (h : told r = true) : ∃ L', r = some (.ret (.bool true) L') := by
  unfold told at h
  split at h
  · subst h; exact ⟨_, rfl⟩
  · cases h

/-- A closed statement. -/
theorem told_walk {P : Program} {T : Nat → Nat → List Nat} (hm : P.follows .mixedOrders = true) (hn : P.funcs.all (fun fn => !(fn.name == "runtime.NumGoroutine")) = true)
    {n f : Nat} {w : World} (h : told (lcall P T n f [] []) = true) : Calls P f #[] w fun e w' => e = .returned (.bool true) ∧ Go.RowKit.Below w.heap.size w w' := by
  obtain ⟨L', h⟩ := told_true h
  exact law_walk hm hn h Rep.empty .nil fun _ => own_nil

end Go.Rlm

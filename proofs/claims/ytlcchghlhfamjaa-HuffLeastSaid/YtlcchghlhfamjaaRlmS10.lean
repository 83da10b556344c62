/- The logical machine and the model: append, the other built-ins, conversions; every operation. -/
import Derived.Test.YtlcchghlhfamjaaRlmS9
namespace Go.Rlm

section
variable {P : Program} {env : Env} {L : LHeap} {o : Oper} {r : LR} {K : Value → LHeap → R}

/-- The model's append, what it does laid open. -/
theorem run_append {ts : Array TypeId} {t0 t1 ty e : TypeId} {d1 : TypeDesc} {i : TypeInfo} {zv : Value} (hts0 : ts[0]? = some t0) (hts1 : ts[1]? = some t1) (hu0 : P.underlying t0 = some (.slice e)) (hu1 : P.underlying t1 = some d1) (hd1 : ∀ k, d1 ≠ .int k) (hi : P.info? e = some i) (hz : i.zero = some zv)
    {base : Option Addr} {sLen sCap n : Nat} {x' : Value} {w : World} (hn : (Builtin.lenOf x').run P w = .ok n w) :
    (∀ {news : List Value} {w' : World}, sLen + n ≤ sCap → (Builtin.firstCells i.size n x').run P w = .ok ⟨news⟩ w →
      (match base with | some a => (storeCells (a.add (sLen * i.size)) news).run P w = .ok () w' | none => w' = w) →
      (Builtin.append_ ts ty #[.slice base sLen sCap, x']).run P w = .ok (.slice base (sLen + n) sCap) w') ∧
    (∀ {old news : List Value}, ¬ (sLen + n ≤ sCap) → (sLen + n) * i.bytes ≤ 2 ^ 47 → sLen + n ≤ 2 ^ 62 →
      (Builtin.firstCells i.size sLen (.slice base sLen sCap)).run P w.drew = .ok ⟨old⟩ w.drew →
      (Builtin.firstCells i.size n x').run P w.drew = .ok ⟨news⟩ w.drew →
      ∃ cap, sLen + n ≤ cap ∧ (Builtin.append_ ts ty #[.slice base sLen sCap, x']).run P w =
        .ok (.slice (some ⟨w.heap.size, 0, none⟩) (sLen + n) cap) (w.drew.alloc (.cells ⟨old ++ news ++ (Builtin.zeroCells zv.cells (cap - (sLen + n))).toList⟩ e))) := by
  have hm : (match d1 with | .int _ => true | _ => false) = false := by cases d1 <;> first | rfl | exact absurd rfl (hd1 _)
  have hsz : ∀ w, (sizeOf e).run P w = .ok i.size w := fun w => by simp [sizeOf, typeInfo, hi]
  refine ⟨fun {news w'} hroom hf hst => ?_, fun {old news} hgrow hb h62 hf hf2 => ?_⟩
  · cases base with
    | none =>
      simp only at hst
      subst hst
      simp [Builtin.append_, hts0, hts1, run_underlying hu0, run_underlying hu1, hsz, hn, hroom, hf]
    | some a =>
      simp only at hst
      simp [Builtin.append_, hts0, hts1, run_underlying hu0, run_underlying hu1, hsz, hn, hroom, hf, hst]
  · have h1 : ¬ (((sLen + n : Nat) : Int) > IntKind.i64.max) := by
      have : IntKind.i64.max = 9223372036854775807 := by decide
      omega
    have h2 : ¬ (Builtin.nextslicecap (sLen + n) sCap * i.bytes > 2 ^ 48) := by
      have := growslice_fits (need := sLen + n) (old := sCap) (bytes := i.bytes) (by omega) (by omega)
      omega
    refine ⟨grownCap w (sLen + n) sCap e, grownCap_ge w _ _ e, ?_⟩
    have h63' : ¬ (9223372036854775807 < ((sLen : Int) + (n : Int))) := by omega
    have h48' : ¬ (281474976710656 < Builtin.nextslicecap (sLen + n) sCap * i.bytes) := by omega
    have hg1 : ¬ (sLen + n ≤ sCap) := hgrow
    have hn2 : (Builtin.lenOf x').run P w = .ok n w := hn
    simp [Builtin.append_, hts0, hts1, run_underlying hu0, run_underlying hu1, sizeOf, typeInfo, zeroValue, hi, hz, hn2, hg1, h63', h48', Question.forced, hf, hf2, newRow, grownCap]
    congr 2
    apply Array.ext'
    simp [List.append_assoc]

end
end Go.Rlm

/- Where a loop stands in a function's code, and what comes behind it: for the printed functions. Definitions alone. -/
import Derived.Test.YtlcchghlhfamjaaRlmB
namespace Go.Rlm

/-- The code at a path: 0: the first part, or the body; 1: the second part. -/
def sub : Code → List Nat → Code
  | c, [] => c
  | .seq a b, i :: p => bif Nat.beq i 0 then sub a p else sub b p
  | .cond _ a b, i :: p => bif Nat.beq i 0 then sub a p else sub b p
  | .block _ b, _ :: p => sub b p
  | .loop b, _ :: p => sub b p
  | .scope b, _ :: p => sub b p
  | c, _ => c

/-- What comes behind the code at a path; js: what is left of the rounds of the loops round it. -/
noncomputable def kont (P : Program) (T : Nat → List Nat) (N : Nat) (call : Caller) (n : Nat) : Code → List Nat → List Nat → LK → LK
  | .seq a b, i :: p, js, K => bif Nat.beq i 0 then kont P T N call n a p js (fun e env L =>
      match e with
      | .normal => lexec P T N call n b K env L
      | e => K e env L) else kont P T N call n b p js K
  | .cond _ a b, i :: p, js, K => bif Nat.beq i 0 then kont P T N call n a p js K else kont P T N call n b p js K
  | .block id b, _ :: p, js, K => kont P T N call n b p js (fun e env L =>
      match e with
      | .exit id' => hif (Nat.beq id' id) (K .normal env L) (K (.exit id') env L)
      | e => K e env L)
  | .loop b, _ :: p, j :: js, K => kont P T N call n b p js (fun e env L =>
      match e with
      | .normal => lloop (lexec P T N call n b) (T (firstRegion b)) K j (keep env (T (firstRegion b))) L
      | e => K e env L)
  | .scope b, _ :: p, js, K => kont P T N call n b p js K
  | _, _, _, K => K

/-- The loop whose body is at a path. -/
noncomputable def loopAt (P : Program) (T : Nat → Nat → List Nat) (f : FuncId) (n : Nat) (path : List Nat) (js : List Nat) (j : Nat) (env : Env) (L : LHeap) : R :=
  match P.funcs[f]? with
  | some fn =>
    match fn.body with
    | some c => lloop (lexec P (T f) fn.ntmps (lcall P T n) n (sub c (path ++ [0]))) (T f (firstRegion (sub c (path ++ [0])))) (kont P (T f) fn.ntmps (lcall P T n) n c path js (lret P fn)) j env L
    | none => none
  | none => none

end Go.Rlm

namespace Go.Rlm
/-- The slots that loops keep, looked up: function, first region. -/
def tlook1 : List (Nat × List Nat) → Nat → List Nat
  | [], _ => []
  | (k, l) :: r, q => bif Nat.beq k q then l else tlook1 r q
def tlook : List (Nat × List (Nat × List Nat)) → Nat → Nat → List Nat
  | [], _, _ => []
  | (f, l) :: r, g, q => bif Nat.beq f g then tlook1 l q else tlook r g q
end Go.Rlm

/- The logical machine: operations, regions, code, calls. Definitions alone. -/
import Derived.Test.YtlcchghlhfamjaaRlmA
namespace Go.Rlm

abbrev Env := List (Nat × Value)

def look : Env → Nat → Option Value
  | [], _ => none
  | (s, v) :: e, t => bif Nat.beq s t then some v else look e t

def flat1 : Value → Bool
  | .bool _ | .int _ _ | .float _ _ | .complex _ _ _ | .string _ | .nilFunc | .nilIface | .pointer none | .slice none _ _ | .map none => true
  | _ => false

/-- A value without addresses. -/
def flat : Value → Bool
  | .agg cs => cs.toList.all flat1
  | v => flat1 v

def ev (env : Env) (x : Operand) (K : Value → R) : R :=
  match x with
  | .tmp t =>
    match look env t with
    | some v => K v
    | none => none
  | .const v => hif (flat v) (K v) none
  | .global _ => none
  | .func f => K (.func (.func f) #[] #[])

def evs (env : Env) : List Operand → (List Value → R) → R
  | [], K => K []
  | x :: xs, K => ev env x fun v => evs env xs fun vs => K (v :: vs)

def evo (env : Env) (x : Option Operand) (K : Option Int → R) : R :=
  match x with
  | none => K none
  | some x => ev env x fun v =>
    match v with
    | .int _ n => K (some n)
    | _ => none

def keep (env : Env) : List Nat → Env
  | [] => []
  | t :: ts =>
    match look env t with
    | some v => (t, v) :: keep env ts
    | none => keep env ts

def put (env : Env) (dst : Option Nat) (v : Value) : Env :=
  match dst with
  | some d => (d, v) :: env
  | none => env

/-- May a slice be made: its length, its capacity, an element's bytes? -/
def room (n c : Int) (b : Nat) : Bool := decide (0 ≤ n) && decide (n ≤ c) && decide (c * b ≤ 2 ^ 47) && decide (c < 2 ^ 62)
theorem room_iff {n c : Int} {b : Nat} : room n c b = true ↔ 0 ≤ n ∧ n ≤ c ∧ c * b ≤ 2 ^ 47 ∧ c < 2 ^ 62 := by simp [room, and_assoc]

/-- Two ways. -/
def lif (b : Bool) (x y : R) : R := bif b then x else y
@[simp] theorem lif_true (x y : R) : lif true x y = x := rfl
@[simp] theorem lif_false (x y : R) : lif false x y = y := rfl

/-! ### Plain operations -/

def bitop (op : BinOp) (k : IntKind) (x y : Int) : Int :=
  let a := BitVec.ofInt k.bits x
  let b := BitVec.ofInt k.bits y
  match op with
  | .and => k.wrap (a &&& b).toNat
  | .or => k.wrap (a ||| b).toNat
  | .xor => k.wrap (a ^^^ b).toNat
  | _ => k.wrap (a &&& ~~~b).toNat

/-- The greatest int. -/
def maxI : Int := 9223372036854775807

def lbin (P : Program) (op : BinOp) (t : TypeId) (x y : Value) (K : Value → R) : R :=
  match x, y with
  | .int k a, .int k' b =>
    match op with
    | .shl => when (!(decide (b < 0))) (K (.int k (k.wrap (a * 2 ^ (min b.toNat k.bits)))))
    | .shr => when (!(decide (b < 0))) (K (.int k (a.fdiv (2 ^ (min b.toNat k.bits)))))
    | .add => hif (decide (k = k')) (K (.int k (k.wrap (a + b)))) none
    | .sub => hif (decide (k = k')) (K (.int k (k.wrap (a - b)))) none
    | .mul => hif (decide (k = k')) (K (.int k (k.wrap (a * b)))) none
    | .quo => hif (decide (k = k')) (when (!(decide (b = 0))) (K (.int k (k.wrap (a.tdiv b))))) none
    | .rem => hif (decide (k = k')) (when (!(decide (b = 0))) (K (.int k (a.tmod b)))) none
    | .and => hif (decide (k = k')) (K (.int k (bitop .and k a b))) none
    | .or => hif (decide (k = k')) (K (.int k (bitop .or k a b))) none
    | .xor => hif (decide (k = k')) (K (.int k (bitop .xor k a b))) none
    | .andNot => hif (decide (k = k')) (K (.int k (bitop .andNot k a b))) none
    | .eql => hif (decide (k = k')) (K (.bool (a == b))) none
    | .neq => hif (decide (k = k')) (K (.bool (a != b))) none
    | .lss => hif (decide (k = k')) (K (.bool (decide (a < b)))) none
    | .leq => hif (decide (k = k')) (K (.bool (decide (a ≤ b)))) none
    | .gtr => hif (decide (k = k')) (K (.bool (decide (a > b)))) none
    | .geq => hif (decide (k = k')) (K (.bool (decide (a ≥ b)))) none
  | .string a, .string b =>
    match op with
    | .add => when (decide (((a.size + b.size : Nat) : Int) ≤ maxI)) (K (.string (a ++ b)))
    | .eql => K (.bool (a.toList == b.toList))
    | .neq => K (.bool (!(a.toList == b.toList)))
    | .lss => K (.bool (Op.bytesLess a.toList b.toList))
    | .leq => K (.bool (Op.bytesLess a.toList b.toList || a.toList == b.toList))
    | .gtr => K (.bool (!(Op.bytesLess a.toList b.toList || a.toList == b.toList)))
    | .geq => K (.bool (!(Op.bytesLess a.toList b.toList)))
    | _ => none
  | .bool a, .bool b =>
    match P.underlying t, op with
    | some .bool, .eql => K (.bool (a == b))
    | some .bool, .neq => K (.bool (!(a == b)))
    | _, _ => none
  | .pointer a, .pointer none =>
    match P.underlying t, op with
    | some (.pointer _), .eql => K (.bool a.isNone)
    | some (.pointer _), .neq => K (.bool (!a.isNone))
    | _, _ => none
  | .slice a _ _, .slice none _ _ =>
    match P.underlying t, op with
    | some (.slice _), .eql => K (.bool a.isNone)
    | some (.slice _), .neq => K (.bool (!a.isNone))
    | _, _ => none
  | _, _ => none

def lun (op : UnOp) (x : Value) (K : Value → R) : R :=
  match op, x with
  | .neg, .int k n => K (.int k (k.wrap (0 - n)))
  | .xor, .int k n => K (.int k (bitop .xor k (if k.signed then -1 else k.max) n))
  | .not, .bool b => K (.bool (!b))
  | _, _ => none

/-- The byte at a place. -/
def byteAt (s : ByteArray) (i : Int) : Option Int :=
  bif decide (0 ≤ i) then (s[i.toNat]?).map fun b => (b.toNat : Int) else none

/-- s[lo:hi] of a string. -/
def subS (s : ByteArray) (lo hi : Option Int) : Option ByteArray := do
  let h ← bound hi s.size s.size
  let l ← bound lo 0 h
  some (s.extract l h)

def toBytes : List Value → ByteArray → Option ByteArray
  | [], acc => some acc
  | .int .u8 n :: vs, acc => toBytes vs (acc.push (UInt8.ofNat n.toNat))
  | _, _ => none

/-- The bytes of a slice. -/
def bytesOf (L : LHeap) (s : Sl) : Option ByteArray := do
  let cs ← srcCells L s s.n 1
  toBytes cs .empty

def nonNil : Value → Option Value
  | .func (.func f) a b => some (.func (.func f) a b)
  | .iface t v => some (.iface t v)
  | _ => none

def zeroOf (P : Program) (t : TypeId) : Option (List Value) :=
  match ((P.info? t).bind (·.zero) : Option Value) with
  | some z =>
    match cellsOf z with
    | some cs => bif cs.all flat1 then some cs else none
    | none => none
  | none => none

/-- Parts are laid into cells: each its place, how many cells, what. -/
def fillL : List Value → List (Nat × Nat × Value) → (List Value → R) → R
  | cs, [], K => K cs
  | cs, (o, n, v) :: ps, K => obind (cellsOf v) fun vs => when (Nat.beq vs.length n) <| when (Nat.ble (o + n) cs.length) (fillL (setAll cs o vs) ps K)

def evParts (env : Env) (place : Nat → Option (Nat × Nat)) : List (Nat × Operand) → (List (Nat × Nat × Value) → R) → R
  | [], K => K []
  | (i, x) :: ps, K =>
    match place i with
    | some (o, n) => ev env x fun v => evParts env place ps fun l => K ((o, n, v) :: l)
    | none => none

def elemOf? (P : Program) (t : TypeId) : Option TypeId :=
  match P.underlying t with
  | some (.slice e) | some (.array _ e) => some e
  | _ => none

/-- copy: the destination's cells. -/
def lcopy (L : LHeap) (d : Sl) (n esz : Nat) (news : List Value) : Option LHeap :=
  match d.a with
  | none => some L
  | some a => bif Nat.beq n 0 || Nat.beq esz 0 then some L else stores L a news

def srcLen : Value → Option Nat
  | .slice _ n _ => some n
  | .string s => some s.size
  | _ => none

def srcOf (L : LHeap) (esz n : Nat) : Value → Option (List Value)
  | .slice a k c => srcCells L ⟨a, k, c⟩ n esz
  | .string s => bif Nat.beq esz 1 then some (byteCells (s.extract 0 n)) else none
  | _ => none

def minmaxL (max : Bool) : Value → List Value → (Value → R) → R
  | v, [], K => K v
  | .int k x, .int k' y :: r, K => hif (decide (k = k')) (minmaxL max (.int k (if max then (if y > x then y else x) else (if y < x then y else x))) r K) none
  | _, _, _ => none

def lbuiltin (P : Program) (b : Builtin) (ts : Array TypeId) (vs : List Value) (L : LHeap) (K : Value → LHeap → R) : R :=
  match b, vs with
  | .len, [.string s] =>
    match (ts[0]?).bind P.underlying with
    | some .string => K (.int .i64 s.size) L
    | _ => none
  | .len, [.slice _ n _] =>
    match (ts[0]?).bind P.underlying with
    | some (.slice _) => K (.int .i64 n) L
    | _ => none
  | .cap, [.slice _ _ c] =>
    match (ts[0]?).bind P.underlying with
    | some (.slice _) => when (Nat.blt c OPEN) (K (.int .i64 c) L)
    | _ => none
  | .append, [.slice a n c, x] =>
    match (ts[0]?).bind P.underlying, (ts[1]?).bind P.underlying with
    | some (.slice _), some (.int _) => none
    | some (.slice e), some _ =>
      match P.info? e with
      | some i => obind (zeroOf P e) fun z => when (Nat.beq z.length i.size) <| when (Nat.blt 0 i.size) <| obind (srcLen x) fun m => obind (srcOf L i.size m x) fun news => obind (app L e i.size i.bytes ⟨a, n, c⟩ m news) fun r => K (.slice r.1.a r.1.n r.1.c) r.2
      | none => none
    | _, _ => none
  | .copy, [.slice a n c, x] =>
    match (ts[0]?).bind P.underlying with
    | some (.slice e) =>
      match P.info? e with
      | some i => obind (srcLen x) fun m => obind (srcOf L i.size (min m n) x) fun news => obind (lcopy L ⟨a, n, c⟩ (min m n) i.size news) fun L' => K (.int .i64 (min m n : Nat)) L'
      | none => none
    | _ => none
  | .clear, [.slice a n c] =>
    match (ts[0]?).bind P.underlying with
    | some (.slice e) => obind (zeroOf P e) fun z => when (Nat.blt 0 z.length) <| obind (lcopy L ⟨a, n, c⟩ n z.length (List.replicate n z).flatten) fun L' => K (.tuple #[]) L'
    | _ => none
  | .min, .int k x :: vs => minmaxL false (.int k x) vs fun v => K v L
  | .max, .int k x :: vs => minmaxL true (.int k x) vs fun v => K v L
  | _, _ => none

def lconv (P : Program) (s d : TypeId) (x : Value) (L : LHeap) (K : Value → LHeap → R) : R :=
  match P.underlying s, P.underlying d, x with
  | some _, some (.int k), .int _ n => K (.int k (k.wrap n)) L
  | some _, some .string, .string s => K (.string s) L
  | some (.slice e), some .string, .slice a n c =>
    match P.underlying e with
    | some (.int .u8) => obind (bytesOf L ⟨a, n, c⟩) fun s => K (.string s) L
    | _ => none
  | some _, some (.slice e), .string s =>
    match P.underlying e with
    | some (.int .u8) => hif (Nat.beq (P.cellsOf e) 1) (K (.slice (some ⟨L.length, 0, none⟩) s.size OPEN) (L ++ [.cells (byteCells s) e false 1])) none
    | _ => none
  | _, _, _ => none

def lslice (P : Program) (t : TypeId) (x : Value) (lo hi mx : Option Int) (L : LHeap) (K : Value → R) : R :=
  match P.underlying t, x with
  | some .string, .string s =>
    match mx with
    | none => obind (subS s lo hi) fun r => K (.string r)
    | some _ => none
  | some (.slice e), .slice a n c => hif (Nat.blt 0 (P.cellsOf e)) (obind (cut L ⟨a, n, c⟩ lo hi mx (P.cellsOf e)) fun r => K (.slice r.a r.n r.c)) none
  | some (.array n e), .pointer (some a) => hif (Nat.blt 0 (P.cellsOf e) && Nat.blt n OPEN) (obind (cut L ⟨some a, n, n⟩ lo hi mx (P.cellsOf e)) fun r => K (.slice r.a r.n r.c)) none
  | _, _ => none

/-- A part of a struct or an array. -/
def partL (P : Program) (t : TypeId) (cs : Array Value) (off : Nat) (K : Value → R) : R :=
  hif (P.underlying t).isSome (hif (isAggT P t) (K (.agg (cs.extract off (off + P.cellsOf t)))) (obind (cs.toList[off]?) fun v => typed1 P t v K)) none

def lop (P : Program) (env : Env) (L : LHeap) (o : Oper) (K : Value → LHeap → R) : R :=
  match o.op with
  | .move x | .assign x => ev env x fun v => K v L
  | .pick c a b => ev env c fun v =>
    match v with
    | .bool t => lif t (ev env a fun v => K v L) (ev env b fun v => K v L)
    | _ => none
  | .alloc t => obind (zeroOf P t) fun z => K (.pointer (some ⟨L.length, 0, none⟩)) (L ++ [.cells z t false 0])
  | .box t x => ev env x fun v => obind (cellsOf v) fun vs => K (.pointer (some ⟨L.length, 0, none⟩)) (L ++ [.cells vs t false 0])
  | .build t parts =>
    match P.underlying t with
    | some (.struct fs) => hif (fs.toList.all (fun f => (P.info? f.type).isSome)) (obind (zeroOf P t) fun z => evParts env (fun i => (fs[i]?).map fun f => (f.offset, P.cellsOf f.type)) parts.toList fun ps => fillL z ps fun cs => K (.agg cs.toArray) L) none
    | some (.array _ e) => hif ((P.info? e).isSome) (obind (zeroOf P t) fun z => evParts env (fun i => some (i * P.cellsOf e, P.cellsOf e)) parts.toList fun ps => fillL z ps fun cs => K (.agg cs.toArray) L) none
    | _ => none
  | .buildSlice t n parts =>
    match P.underlying t with
    | some (.slice e) => obind (zeroOf P e) fun z => evParts env (fun i => some (i * P.cellsOf e, P.cellsOf e)) parts.toList fun ps =>
        when (Nat.beq z.length (P.cellsOf e)) <| when (Nat.blt 0 z.length) <| when (Nat.ble (n * z.length) (2 ^ 24)) <| fillL (List.replicate n z).flatten ps fun cs => K (.slice (some ⟨L.length, 0, none⟩) n n) (L ++ [.cells cs e false 0])
    | _ => none
  | .load t a => ev env a fun v =>
    match v with
    | .pointer (some ad) => loadT P t L ad fun v => K v L
    | _ => none
  | .store t a x => ev env a fun v => ev env x fun u =>
    match v with
    | .pointer (some ad) => obind (cellsOf u) fun vs => when (Nat.beq vs.length (P.cellsOf t)) <| hif ((P.underlying t).isSome) (obind (stores L ad vs) (fun L' => K (.tuple #[]) L')) none
    | _ => none
  | .nilCheck x => ev env x fun v =>
    match v with
    | .pointer p => obind p fun a => K (.pointer (some a)) L
    | v => obind (nonNil v) fun v => K v L
  | .binOp op t x y _ => ev env x fun v => ev env y fun u => lbin P op t v u fun r => K r L
  | .unOp op _ x => ev env x fun v => lun op v fun r => K r L
  | .convert s d x => ev env x fun v => lconv P s d v L K
  | .makeInterface t x => ev env x fun v =>
    match P.underlying t with
    | some (.interface _) | none => none
    | some _ => K (.iface t v) L
  | .makeFunc (.func f) first cap => evs env first.toList fun as => evs env cap.toList fun bs => K (.func (.func f) as.toArray bs.toArray) L
  | .makeSlice t n c => ev env n fun v => ev env c fun u =>
    match P.underlying t, v, u with
    | some (.slice e), .int _ n, .int _ c =>
      match P.info? e with
      | some i => obind (zeroOf P e) fun z => when (Nat.beq z.length i.size) <| when (Nat.blt 0 z.length) <| when (room n c i.bytes) <|
          (K (.slice (some ⟨L.length, 0, none⟩) n.toNat c.toNat) (L ++ [.cells (List.replicate c.toNat z).flatten e false 0]))
      | none => none
    | _, _, _ => none
  | .slice t x lo hi mx => ev env x fun v => evo env lo fun lo => evo env hi fun hi => evo env mx fun mx => lslice P t v lo hi mx L fun r => K r L
  | .fieldAddr s x f => ev env x fun v =>
    match P.underlying s, v with
    | some (.struct fs), .pointer (some a) =>
      match fs[f]? with
      | some f => hif (Nat.blt 0 (P.cellsOf f.type)) (K (.pointer (some (a.add f.offset))) L) none
      | none => none
    | _, _ => none
  | .field t x f => ev env x fun v =>
    match P.underlying t, v with
    | some (.struct fs), .agg cs =>
      match fs[f]? with
      | some f => partL P f.type cs f.offset fun v => K v L
      | none => none
    | _, _ => none
  | .indexAddr t x i => ev env x fun v => ev env i fun u =>
    match P.underlying t, v, u with
    | some (.slice e), .slice a n c, .int _ i => hif (Nat.blt 0 (P.cellsOf e)) (obind (idx ⟨a, n, c⟩ i (P.cellsOf e)) fun a => K (.pointer (some a)) L) none
    | some (.array n e), .pointer (some a), .int _ i => hif (Nat.blt 0 (P.cellsOf e)) (when (decide (0 ≤ i)) <| when (decide (i < n)) (K (.pointer (some (a.add (i.toNat * P.cellsOf e)))) L)) none
    | _, _, _ => none
  | .index t x i => ev env x fun v => ev env i fun u =>
    match P.underlying t, v, u with
    | some .string, .string s, .int _ i => obind (byteAt s i) fun b => K (.int .u8 b) L
    | some (.array n e), .agg cs, .int _ i => when (decide (0 ≤ i)) <| when (decide (i < n)) <|
        partL P e cs (i.toNat * P.cellsOf e) fun v => K v L
    | _, _, _ => none
  | .extract t i => ev env t fun v =>
    match v with
    | .tuple vs => obind (vs.toList[i]?) fun v => K v L
    | _ => none
  | .call c =>
    match c.callee with
    | .builtin b => evs env c.args.toList fun vs => lbuiltin P b c.argTypes vs L K
    | _ => none
  | _ => none

/-! ### Calls, regions -/

abbrev Caller := FuncId → List Value → LHeap → R

def lapp (call : Caller) (f : Value) (args : List Value) (L : LHeap) : R :=
  match f with
  | .func (.func g) as bs => call g (as.toList ++ args ++ bs.toList) L
  | _ => none

/-- An operation, calls among them. -/
def lstep (P : Program) (call : Caller) (env : Env) (L : LHeap) (o : Oper) (K : Value → LHeap → R) : R :=
  match o.op with
  | .call { callee := .value f, args, .. } => ev env f fun fv => evs env args.toList fun vs => lbind (lapp call fv vs L) fun v L' => typed P o.type v fun v => K v L'
  | .panic x => ev env x fun v =>
    match v with
    | .iface t u => some (.pan (.iface t u) L)
    | _ => none
  | _ => lop P env L o K

/-- The same in a region that leaves its order open: nothing may panic. -/
def lstepD (P : Program) (call : Caller) (env : Env) (L : LHeap) (o : Oper) (K : Value → LHeap → R) : R :=
  match o.op with
  | .call { callee := .value f, args, .. } => ev env f fun fv => evs env args.toList fun vs => lbindR (lapp call fv vs L) fun v L' => typed P o.type v fun v => K v L'
  | _ => lop P env L o K

/-- Is the operation asked by a later one whether it held? -/
def asked (ops : List Oper) (i : Nat) : Bool := ops.any fun o => match o.guard with | some (j, _) => Nat.beq j i | none => false

/-- A bool that is asked: both ways, each with its own answer. -/
def split (b : Bool) (v : Value) (K : Value → R) : R :=
  hif b
    (match v with
    | .bool c => lif c (K (.bool true)) (K (.bool false))
    | v => K v)
    (K v)

def dstOf (ops : List Oper) (j : Nat) : Option Nat := (ops[j]?).bind (·.dst)

/-- Is it wanted? none: that can't be seen. -/
def wants (ops : List Oper) (env : Env) (o : Oper) : Option Bool :=
  match o.guard with
  | none => some true
  | some (j, w) =>
    match dstOf ops j with
    | none => none
    | some d =>
      match look env d with
      | some (.bool b) => some (b == w)
      | some (.tuple vs) => bif vs.toList.isEmpty then some false else none
      | _ => none

/-- A region, in the order of its text. -/
def lrun (P : Program) (call : Caller) (ops : List Oper) : (i : Nat) → List Oper → Env → LHeap → (Env → LHeap → R) → R
  | _, [], env, L, K => K env L
  | i, o :: rest, env, L, K =>
    match wants ops env o with
    | some true => lstep P call env L o fun v L' => split (asked ops i) v fun v => lrun P call ops (i + 1) rest (put env o.dst v) L' K
    | some false => lrun P call ops (i + 1) rest (put env o.dst (.tuple #[])) L K
    | none => none

/-- A bit. -/
def tbit (m n : Nat) : Bool := Nat.beq (m / 2 ^ n % 2) 1

/-- What is before each operation, as bits. -/
def befores : List Oper → List Nat → List Nat
  | [], acc => acc
  | o :: rest, acc => befores rest (acc ++ [o.after.toList.foldl (fun s e => bif Region.binds .any e then s ||| 2 ^ e.on ||| acc.getD e.on 0 else s) 0])

inductive Kind where
  | pure | read | write
  deriving DecidableEq

def kindOf (P : Program) : Op → Kind
  | .load .. => .read
  | .slice t .. =>
    match P.underlying t with
    | some .string => .pure
    | _ => .read
  | .convert s d _ =>
    match P.underlying s, P.underlying d with
    | some (.slice _), some .string => .read
    | _, some (.slice _) => .write
    | _, _ => .pure
  | .call { callee := .builtin .len, argTypes, .. } =>
    match (argTypes[0]?).bind P.underlying with
    | some .string | some (.slice _) => .pure
    | _ => .write
  | .call _ => .write
  | .move _ | .assign _ | .pick .. | .build .. | .nilCheck _ | .binOp .. | .unOp .. | .makeInterface .. | .makeFunc .. | .fieldAddr .. | .field .. | .indexAddr .. | .index .. | .extract .. => .pure
  | _ => .write

/-- Plain values, told the same by a run. -/
def fast1 : Value → Value → Bool
  | .int k n, .int k' n' => decide (k = k') && decide (n = n')
  | .bool a, .bool b => a == b
  | .string a, .string b => decide (a.data.toList = b.data.toList)
  | .pointer none, .pointer none => true
  | .pointer (some a), .pointer (some b) => decide (a = b)
  | .slice none n c, .slice none n' c' => Nat.beq n n' && Nat.beq c c'
  | .slice (some a) n c, .slice (some b) n' c' => decide (a = b) && (Nat.beq n n' && Nat.beq c c')
  | .nilIface, .nilIface => true
  | .nilFunc, .nilFunc => true
  | _, _ => false

theorem fast1_eq {v u : Value} (h : fast1 v u = true) : v = u := by
  unfold fast1 at h
  split at h
  · simp only [Bool.and_eq_true, decide_eq_true_eq] at h; rw [h.1, h.2]
  · rw [eq_of_beq h]
  · rename_i a b
    have h := of_decide_eq_true h
    have : a = b := by cases a; cases b; congr 1; exact Array.ext' h
    rw [this]
  · rfl
  · rw [of_decide_eq_true h]
  · simp only [Bool.and_eq_true] at h; rw [Nat.eq_of_beq_eq_true h.1, Nat.eq_of_beq_eq_true h.2]
  · simp only [Bool.and_eq_true] at h; rw [of_decide_eq_true h.1, Nat.eq_of_beq_eq_true h.2.1, Nat.eq_of_beq_eq_true h.2.2]
  · rfl
  · rfl
  · cases h

def fastL : List Value → List Value → Bool
  | [], [] => true
  | v :: vs, u :: us => fast1 v u && fastL vs us
  | _, _ => false

theorem fastL_eq : ∀ {vs us : List Value}, fastL vs us = true → vs = us
  | [], [], _ => rfl
  | v :: vs, u :: us, h => by
    simp only [fastL, Bool.and_eq_true] at h
    rw [fast1_eq h.1, fastL_eq h.2]
  | [], _ :: _, h => by cases h
  | _ :: _, [], h => by cases h

def fast : Value → Value → Bool
  | .agg cs, .agg cs' => fastL cs.toList cs'.toList
  | .tuple cs, .tuple cs' => fastL cs.toList cs'.toList
  | v, u => fast1 v u

theorem fast_eq {v u : Value} (h : fast v u = true) : v = u := by
  unfold fast at h
  split at h
  · rw [Array.ext' (fastL_eq h)]
  · rw [Array.ext' (fastL_eq h)]
  · exact fast1_eq h

noncomputable def same (v u : Value) : Bool := fast v u || @decide (v = u) (Classical.propDecidable _)
@[simp] theorem same_self (v : Value) : same v v = true := by simp [same]
theorem same_eq {v u : Value} (h : same v u = true) : v = u := by
  rw [same, Bool.or_eq_true] at h
  rcases h with h | h
  · exact fast_eq h
  · simpa using h

/-- An operation that has read: itself, what it saw, what came of it. -/
structure Read where
  o : Oper
  env : Env
  v : Value

/-- What was read is read in another heap, too. -/
noncomputable def reread (P : Program) (r : Read) (L : LHeap) (K : R) : R := lop P r.env L r.o fun v _ => when (same r.v v) K

noncomputable def rereadIn (P : Program) (r : Read) (bits : Nat) : List (Nat × LHeap) → R → R
  | [], K => K
  | (q, H) :: ps, K => hif (tbit bits q) (rereadIn P r bits ps K) (reread P r H (rereadIn P r bits ps K))

noncomputable def rereadAll (P : Program) (bits : Nat) (L : LHeap) : List (Nat × Read) → R → R
  | [], K => K
  | (q, r) :: rs, K => hif (tbit bits q) (rereadAll P bits L rs K) (reread P r L (rereadAll P bits L rs K))

def pastOk (bits : Nat) : List (Nat × LHeap) → Bool
  | [] => true
  | (q, _) :: ps => tbit bits q && pastOk bits ps

/-- A region that leaves its order open: the text's order, and it is seen that no other one makes a difference. -/
noncomputable def ldraw (P : Program) (call : Caller) (ops : List Oper) (bef : List Nat) : (i : Nat) → List Oper → Env → LHeap → List (Nat × LHeap) → List (Nat × Read) → (Env → LHeap → R) → R
  | _, [], env, L, _, _, K => K env L
  | i, o :: rest, env, L, past, log, K =>
    match wants ops env o with
    | some true =>
      match kindOf P o.op with
      | .pure => lop P env L o fun v _ => split (asked ops i) v fun v => ldraw P call ops bef (i + 1) rest (put env o.dst v) L past log K
      | .read => lop P env L o fun v _ => rereadIn P ⟨o, env, v⟩ (bef.getD i 0) past <|
          split (asked ops i) v fun v => ldraw P call ops bef (i + 1) rest (put env o.dst v) L past ((i, ⟨o, env, v⟩) :: log) K
      | .write => when (pastOk (bef.getD i 0) past) <|
          lstepD P call env L o fun v L' => rereadAll P (bef.getD i 0) L' log <|
            split (asked ops i) v fun v => ldraw P call ops bef (i + 1) rest (put env o.dst v) L' ((i, L) :: past) log K
    | some false => ldraw P call ops bef (i + 1) rest (put env o.dst (.tuple #[])) L past log K
    | none => none

/-- The temporaries that an operation names. -/
def tmpsOf (ops : List Oper) (o : Oper) : List Nat :=
  (o.op.operands.toList.filterMap fun | .tmp t => some t | _ => none) ++ (match o.guard with | some (j, _) => (dstOf ops j).toList | none => [])

/-- Of two operations, of which one writes a temporary that the other one writes or reads, one is before the other. -/
def ordered (ops : List Oper) (bef : List Nat) : Bool :=
  ((List.range ops.length).all fun j =>
    match ops[j]? with
    | some o => o.after.toList.all fun e => bif Region.binds .any e then Nat.blt e.on j else true
    | none => true) &&
  (List.range ops.length).all fun j => (List.range ops.length).all fun i =>
    bif Nat.beq i j then true else
    match ops[i]?, ops[j]? with
    | some x, some y =>
      match x.dst with
      | some d => bif (tmpsOf ops y).any (Nat.beq d) || (match y.dst with | some d' => Nat.beq d d' | none => false) then tbit (bef.getD (max i j) 0) (min i j) else true
      | none => true
    | _, _ => true

inductive LExit where
  | normal
  | exit (id : Nat)
  | ret

abbrev LK := LExit → Env → LHeap → R

def lloop (B : LK → Env → LHeap → R) (lv : List Nat) (K : LK) : Nat → Env → LHeap → R
  | 0, _, _ => none
  | n + 1, env, L => B (fun e env L =>
      match e with
      | .normal => lloop B lv K n (keep env lv) L
      | e => K e env L) env L

def firstRegion : Code → Nat
  | .region id _ _ => id
  | .seq a _ => firstRegion a
  | .block _ b | .loop b | .scope b => firstRegion b
  | _ => 0

/-- Each operation writes a temporary that there is. -/
def dstOk (N : Nat) (ops : List Oper) : Bool :=
  ops.all fun o =>
    match o.dst with
    | some d => Nat.blt d N
    | none => true

/-- T: of each loop (by its first region) the slots that are kept from round to round. -/
noncomputable def lexec (P : Program) (T : Nat → List Nat) (N : Nat) (call : Caller) (n : Nat) (c : Code) : LK → Env → LHeap → R :=
  c.rec
    (skip := fun K env L => K .normal env L)
    (region := fun _ ops draw K env L =>
      hif (dstOk N ops.toList)
        (hif draw (hif (ordered ops.toList (befores ops.toList [])) (ldraw P call ops.toList (befores ops.toList []) 0 ops.toList env L [] [] (K .normal)) none)
          (lrun P call ops.toList 0 ops.toList env L (K .normal))) none)
    (seq := fun _ _ A B K env L => A (fun e env L =>
      match e with
      | .normal => B K env L
      | e => K e env L) env L)
    (cond := fun c _ _ A B K env L => ev env c fun v =>
      match v with
      | .bool t => lif t (A K env L) (B K env L)
      | _ => none)
    (block := fun id _ B K env L => B (fun e env L =>
      match e with
      | .exit id' => hif (Nat.beq id' id) (K .normal env L) (K (.exit id') env L)
      | e => K e env L) env L)
    (loop := fun b B K env L => lloop B (T (firstRegion b)) K n (keep env (T (firstRegion b))) L)
    (rangeFunc := fun _ _ _ _ _ _ _ _ _ => none)
    (exit := fun id K env L => K (.exit id) env L)
    (scope := fun _ B K env L => B K env L)
    (label := fun _ K env L => K .normal env L)
    (goto := fun _ _ _ _ => none)
    (ret := fun K env L => K .ret env L)
    (refuse := fun _ _ _ _ => none)

/-- What a function hands back. -/
def lresults (P : Program) (env : Env) (L : LHeap) : List ResultVar → (List Value → R) → R
  | [], K => K []
  | .tmp t :: rs, K => ev env (.tmp t) fun v => lresults P env L rs fun vs => K (v :: vs)
  | .cell t ty :: rs, K => ev env (.tmp t) fun v =>
    match v with
    | .pointer (some ad) => loadT P ty L ad fun v => lresults P env L rs fun vs => K (v :: vs)
    | _ => none

def lret (P : Program) (fn : Func) : LK := fun e env L =>
  match e with
  | .exit _ => none
  | _ => lresults P env L fn.results.toList fun vs =>
    match vs with
    | [v] => some (.ret v L)
    | vs => some (.ret (.tuple vs.toArray) L)

def enum (args : List Value) (i : Nat) : Env :=
  match args with
  | [] => []
  | v :: vs => (i, v) :: enum vs (i + 1)

noncomputable def lcall (P : Program) (T : Nat → Nat → List Nat) : Nat → Caller
  | 0, _, _, _ => none
  | n + 1, f, args, L =>
    match P.funcs[f]? with
    | some fn =>
      match fn.body with
      | some c => hif (Nat.ble args.length fn.ntmps) (lexec P (T f) fn.ntmps (lcall P T n) n c (lret P fn) (enum args 0) L) none
      | none => none
    | none => none

end Go.Rlm

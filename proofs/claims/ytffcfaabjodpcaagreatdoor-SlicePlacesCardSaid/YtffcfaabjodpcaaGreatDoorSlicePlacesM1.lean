/- The logical machine, its likeness to the model, and the contracts of the functions that the law calls. Printed by pack.py, a program of this work, out of its texts; what the law does not use is left out. -/
import Derived.Calls
import Derived.WalkKit
import Derived.Lib.ConvBytes
import Derived.MapKept
import Derived.Lib.UnsafeStr
section
namespace Go.Rlm
abbrev Env := List (Nat × Value)
/-- How a piece of code is left. -/
inductive LExit where
  | normal
  | exit (id : Nat)
  | ret
  deriving DecidableEq
/-- Where a range over a function stands: a round may begin; one is under way; a round has been left otherwise than by its end. -/
inductive LSt where
  | ready
  | busy
  | left (e : LExit)
/-- A block: a row of cells (ro: it is only read; sp: 0, or, where it is not known whether there is room behind its cells: how many cells an element takes), or one that may not be touched any more; or a map (its entries: key, what stands there, its stamp; the next stamp); or a range over a function: of function f, its body's first region, the slots az they were when it began. -/
inductive LBlk where
  | cells (cs : List Value) (elem : TypeId) (ro : Bool) (sp : Nat)
  | map (es : List (Value × Value × Nat)) (ck : Nat)
  | loop (f id : Nat) (env : Env) (st : LSt)
  | dead
  deriving Inhabited
abbrev LHeap := List LBlk
/-- A slice. c = OPEN: its capacity is not known, but it is no less than what its block is known to hold. c = LOOSE: an empty one of which nothing else is known. -/
structure Sl where
  a : Option Addr
  n : Nat
  c : Nat
def OPEN : Nat := 2 ^ 64
def LOOSE : Nat := 2 ^ 64 + 1
/-- An answer: a value; a panic; a value, if something holds; this one or that one. -/
inductive LR where
  | ret (v : Value) (L : LHeap)
  | pan (v : Value) (L : LHeap)
  | gate (b : Bool) (v : Value) (L : LHeap)
  | alt (g b : Bool) (v : Value) (L : LHeap) (v' : Value) (L' : LHeap)
abbrev R := Option LR
def obind {α : Type} (x : Option α) (f : α → R) : R :=
  match x with
  | some a => f a
  | none => none
/-- Go on if it holds. -/
def when (b : Bool) (r : R) : R := bif b then r else none
/-- Two ways. -/
def lif (b : Bool) (x y : R) : R := bif b then x else y
def lbind (x : R) (f : Value → LHeap → R) : R :=
  match x with
  | some (.ret v L) => f v L
  | some (.pan v L) => some (.pan v L)
  | some (.gate b v L) => when b (f v L)
  | some (.alt g b v L v' L') => when g (lif b (f v L) (f v' L'))
  | none => none
/-- The same where nothing may panic. -/
def lbindR (x : R) (f : Value → LHeap → R) : R :=
  match x with
  | some (.ret v L) => f v L
  | some (.gate b v L) => when b (f v L)
  | some (.alt g b v L v' L') => when g (lif b (f v L) (f v' L'))
  | _ => none
@[simp] theorem lbindR_ret (v : Value) (L : LHeap) (f : Value → LHeap → R) : lbindR (some (.ret v L)) f = f v L := rfl
def h0 : Unit := ()
def h1 : Unit := h0
def h2 : Unit := h1
def h3 : Unit := h2
def h4 : Unit := h3
def h5 : Unit := h4
def h6 : Unit := h5
def hif {α : Type} (b : Bool) (x y : α) : α := (fun _ : Unit => match b with | true => x | false => y) h6
theorem hif_eq {α : Type} (b : Bool) (x y : α) : hif b x y = cond b x y := by cases b <;> rfl
@[simp] theorem hif_true {α : Type} (x y : α) : hif true x y = x := rfl
@[simp] theorem hif_false {α : Type} (x y : α) : hif false x y = y := rfl
@[simp] theorem obind_some {α : Type} (a : α) (f : α → R) : obind (some a) f = f a := rfl
@[simp] theorem obind_none {α : Type} (f : α → R) : obind none f = none := rfl
@[simp] theorem lbind_ret (v : Value) (L : LHeap) (f : Value → LHeap → R) : lbind (some (.ret v L)) f = f v L := rfl
@[simp] theorem lbind_pan (v : Value) (L : LHeap) (f : Value → LHeap → R) : lbind (some (.pan v L)) f = some (.pan v L) := rfl
@[simp] theorem when_true (r : R) : when true r = r := rfl
@[simp] theorem when_false (r : R) : when false r = none := rfl
/-- What it is, if what it asks holds. -/
def LR.real : LR → Option LR
  | .gate b v L => bif b then some (.ret v L) else none
  | .alt g b v L v' L' => bif g then (bif b then some (.ret v L) else some (.ret v' L')) else none
  | r => some r
def LR.isReal : LR → Bool
  | .ret _ _ | .pan _ _ => true
  | _ => false
theorem lbind_real {r1 : LR} {F : Value → LHeap → R} {r : LR} (h : lbind (some r1) F = some r) : ∃ r2, r1.real = some r2 ∧ lbind (some r2) F = some r ∧ r2.isReal = true := by
  cases r1 with
  | ret v L => exact ⟨_, rfl, h, rfl⟩
  | pan v L => exact ⟨_, rfl, h, rfl⟩
  | gate b v L =>
    cases b with
    | true => exact ⟨_, rfl, h, rfl⟩
    | false => cases h
  | alt g b v L v' L' =>
    cases g with
    | false => cases h
    | true =>
      cases b with
      | true => exact ⟨_, rfl, h, rfl⟩
      | false => exact ⟨_, rfl, h, rfl⟩
theorem lbindR_real {r1 : LR} {F : Value → LHeap → R} {r : LR} (h : lbindR (some r1) F = some r) : ∃ r2, r1.real = some r2 ∧ lbindR (some r2) F = some r ∧ r2.isReal = true := by
  cases r1 with
  | ret v L => exact ⟨_, rfl, h, rfl⟩
  | pan v L => cases h
  | gate b v L =>
    cases b with
    | true => exact ⟨_, rfl, h, rfl⟩
    | false => cases h
  | alt g b v L v' L' =>
    cases g with
    | false => cases h
    | true =>
      cases b with
      | true => exact ⟨_, rfl, h, rfl⟩
      | false => exact ⟨_, rfl, h, rfl⟩
def cell (L : LHeap) (a : Addr) : Option Value :=
  match a.spot with
  | some _ => none
  | none =>
    match L[a.block]? with
    | some (.cells cs _ _ _) => cs[a.off]?
    | _ => none
/-- n cells from an address on. -/
def cellsAt (L : LHeap) (a : Addr) (n : Nat) : Option (List Value) :=
  match a.spot with
  | some _ => none
  | none =>
    match L[a.block]? with
    | some (.cells cs _ _ _) => bif Nat.ble (a.off + n) cs.length then some ((cs.drop a.off).take n) else none
    | _ => none
def setAll : List Value → Nat → List Value → List Value
  | cs, _, [] => cs
  | cs, o, v :: vs => setAll (cs.set o v) (o + 1) vs
/-- Cells are written from an address on. -/
def stores (L : LHeap) (a : Addr) (vs : List Value) : Option LHeap :=
  match a.spot with
  | some _ => none
  | none =>
    match L[a.block]? with
    | some (.cells cs e false sp) =>
      bif Nat.ble (a.off + vs.length) cs.length then some (L.set a.block (.cells (setAll cs a.off vs) e false sp)) else none
    | _ => none
/-- How many elements from an address on a block is known to hold; elements of another size: none. -/
def blen (L : LHeap) (a : Addr) (esz : Nat) : Option Nat :=
  match a.spot with
  | some _ => none
  | none =>
    match L[a.block]? with
    | some (.cells cs _ _ sp) => bif Nat.beq sp esz && Nat.blt 0 esz then some ((cs.length - a.off) / esz) else none
    | _ => none
def asI (k : IntKind) : Value → Option Int
  | .int k' n => if k' = k then some n else none
  | _ => none
def asB : Value → Option Bool
  | .bool b => some b
  | _ => none
def asS : Value → Option ByteArray
  | .string s => some s
  | _ => none
def asP : Value → Option (Option Addr)
  | .pointer a => some a
  | _ => none
def asSl : Value → Option Sl
  | .slice a n c => some ⟨a, n, c⟩
  | _ => none
def asM : Value → Option (Option Nat)
  | .map r => some r
  | _ => none
def asAgg : Value → Option (Array Value)
  | .agg cs => some cs
  | _ => none
def aggL (n : Nat) : Value → Option (List Value)
  | .agg cs => bif Nat.beq cs.toList.length n then some cs.toList else none
  | _ => none
def tupL : Value → Option (List Value)
  | .tuple vs => some vs.toList
  | _ => none
def uncons (l : List Value) (f : Value → List Value → R) : R :=
  match l with
  | x :: xs => f x xs
  | [] => none
@[simp] theorem asI_int (k : IntKind) (n : Int) : asI k (.int k n) = some n := by simp [asI]
@[simp] theorem asB_bool (b : Bool) : asB (.bool b) = some b := rfl
@[simp] theorem asS_string (s : ByteArray) : asS (.string s) = some s := rfl
@[simp] theorem asP_pointer (a : Option Addr) : asP (.pointer a) = some a := rfl
@[simp] theorem asSl_slice (a : Option Addr) (n c : Nat) : asSl (.slice a n c) = some ⟨a, n, c⟩ := rfl
@[simp] theorem asM_map (r : Option Nat) : asM (.map r) = some r := rfl
@[simp] theorem asAgg_agg (cs : Array Value) : asAgg (.agg cs) = some cs := rfl
@[simp] theorem tupL_tuple (vs : Array Value) : tupL (.tuple vs) = some vs.toList := rfl
@[simp] theorem uncons_cons (x : Value) (xs : List Value) (f : Value → List Value → R) : uncons (x :: xs) f = f x xs := rfl
/-- What stands in one cell. -/
def one : Value → Bool
  | .agg _ | .tuple _ => false
  | _ => true
def cellsOf : Value → Option (List Value)
  | .agg cs => some cs.toList
  | .tuple _ => none
  | v => some [v]
/-- The kinds of single cells. -/
inductive Leaf where
  | i (k : IntKind) | b | s | p | sl | m | raw
  deriving DecidableEq
def leaves (P : Program) : Nat → TypeId → Option (List Leaf)
  | 0, _ => none
  | d + 1, t =>
    match P.underlying t with
    | some (.int k) => some [.i k]
    | some .bool => some [.b]
    | some .string => some [.s]
    | some (.pointer _) => some [.p]
    | some (.slice _) => some [.sl]
    | some (.map _ _) => some [.m]
    | some (.func _ _ _) | some (.interface _) => some [.raw]
    | some (.struct fs) => fs.toList.foldr (fun f acc => match leaves P d f.type, acc with | some x, some y => some (x ++ y) | _, _ => none) (some [])
    | some (.array n e) => bif Nat.ble n 8 then (leaves P d e).map fun l => (List.replicate n l).flatten else none
    | _ => none
/-- A cell's value, its kind laid open. -/
def leaf (l : Leaf) (x : Option Value) (K : Value → R) : R :=
  match l with
  | .i k => obind (x.bind (asI k)) fun n => K (.int k n)
  | .b => obind (x.bind asB) fun b => K (.bool b)
  | .s => obind (x.bind asS) fun s => K (.string s)
  | .p => obind (x.bind asP) fun a => K (.pointer a)
  | .sl => obind (x.bind asSl) fun s => K (.slice s.a s.n s.c)
  | .m => obind (x.bind asM) fun r => K (.map r)
  | .raw => obind x K
def ldLeaves (L : LHeap) (a : Addr) : List Leaf → Nat → (List Value → R) → R
  | [], _, K => K []
  | l :: ls, j, K => leaf l (cell L (a.add j)) fun v => ldLeaves L a ls (j + 1) fun vs => K (v :: vs)
def isAggT (P : Program) (t : TypeId) : Bool :=
  match P.underlying t with
  | some (.struct _) | some (.array _ _) => true
  | _ => false
def loadT (P : Program) (t : TypeId) (L : LHeap) (a : Addr) (K : Value → R) : R :=
  hif (isAggT P t)
    (match leaves P 20 t with
    | some ls => hif (Nat.beq ls.length (P.cellsOf t)) (ldLeaves L a ls 0 fun vs => K (.agg vs.toArray)) none
    | none => obind (cellsAt L a (P.cellsOf t)) fun cs => K (.agg cs.toArray))
    (match leaves P 20 t with
    | some [l] => leaf l (cell L a) K
    | _ => none)
def unLeaves : List Leaf → List Value → (List Value → R) → R
  | [], _, K => K []
  | l :: ls, vs, K => uncons vs fun v vs => leaf l (some v) fun x => unLeaves ls vs fun xs => K (x :: xs)
/-- A value of a type, its kind laid open. -/
def typed1 (P : Program) (t : TypeId) (v : Value) (K : Value → R) : R :=
  hif (isAggT P t)
    (match leaves P 20 t with
    | some ls => obind (aggL ls.length v) fun cs => unLeaves ls cs fun xs => K (.agg xs.toArray)
    | none => obind (asAgg v) fun cs => K (.agg cs))
    (match leaves P 20 t with
    | some [l] => leaf l (some v) K
    | _ => K v)
/-- No more of them. -/
def nilL (l : List Value) (r : R) : R :=
  match l with
  | [] => r
  | _ => none
@[simp] theorem nilL_nil (r : R) : nilL [] r = r := rfl
def typedAll (P : Program) : List TypeId → List Value → (List Value → R) → R
  | [], vs, K => nilL vs (K [])
  | t :: ts, vs, K => uncons vs fun v vs => typed1 P t v fun x => typedAll P ts vs fun xs => K (x :: xs)
def typed (P : Program) (t : TypeId) (v : Value) (K : Value → R) : R :=
  match P.underlying t with
  | some (.tuple ts) => hif (ts.isEmpty) (K v) (obind (tupL v) fun vs => typedAll P ts.toList vs fun xs => K (.tuple xs.toArray))
  | _ => typed1 P t v K
def addrN (a : Addr) (n : Nat) : Addr := { block := a.block, off := a.off + n, spot := none }
/-- The address of an element. -/
def idx (s : Sl) (i : Int) (esz : Nat) : Option Addr :=
  match s.a with
  | some a => bif decide (0 ≤ i) && decide (i < s.n) then some (a.add (i.toNat * esz)) else none
  | none => none
/-- A bound: what it is, no more than y; where it is left out: d, that must be no more than y. -/
def bound (x : Option Int) (d : Nat) (y : Nat) : Option Nat :=
  match x with
  | some i => bif decide (0 ≤ i) && decide (i ≤ y) then some i.toNat else none
  | none => bif Nat.ble d y then some d else none
/-- s[lo:hi:mx] -/
def cut (L : LHeap) (s : Sl) (lo hi mx : Option Int) (esz : Nat) : Option Sl :=
  bif Nat.blt s.c OPEN then do
    let m ← bound mx s.c s.c
    let h ← bound hi (bif mx.isSome then m + 1 else s.n) m
    let l ← bound lo 0 h
    some ⟨if m = l then s.a else s.a.map (·.add (l * esz)), h - l, m - l⟩
  else bif Nat.beq s.c OPEN then
    match s.a with
    | none => none
    | some a => do
      let e ← blen L a esz
      match mx with
      | some x => do
        let m ← bound (some x) 0 e
        let h ← bound hi (m + 1) m
        let l ← bound lo 0 h
        if m < OPEN then some ⟨some (if m = l then a else a.add (l * esz)), h - l, m - l⟩ else none
      | none => do
        let h ← bound hi s.n e
        let l ← bound lo 0 h
        if l = 0 then some ⟨some a, h, OPEN⟩
        else if l < e then some ⟨some (a.add (l * esz)), h - l, OPEN⟩
        else some ⟨some a, 0, LOOSE⟩
  else bif Nat.beq s.c LOOSE then
    match s.a with
    | none => none
    | some a => bif mx.isNone then do
        let h ← bound hi 0 0
        let _ ← bound lo 0 h
        some ⟨some a, 0, LOOSE⟩
      else none
  else none
/-- The cells of the first n elements. -/
def srcCells (L : LHeap) (s : Sl) (n esz : Nat) : Option (List Value) :=
  bif Nat.beq n 0 then some [] else
  match s.a with
  | some a => cellsAt L a (n * esz)
  | none => none
def byteCells (s : ByteArray) : List Value := s.data.toList.map fun b => .int .u8 b.toNat
/-- append: the elements' cells 'news', n elements; 'bytes' an element's bytes. -/
def app (L : LHeap) (e : TypeId) (esz bytes : Nat) (s : Sl) (n : Nat) (news : List Value) : Option (Sl × LHeap) :=
  let need := s.n + n
  bif Nat.blt s.c OPEN then
    bif Nat.ble need s.c then
      match s.a with
      | none => some (⟨none, need, s.c⟩, L)
      | some a => bif news.isEmpty then some (⟨some a, need, s.c⟩, L) else do
        let L' ← stores L (a.add (s.n * esz)) news
        some (⟨some a, need, s.c⟩, L')
    else bif Nat.ble (need * bytes) (2 ^ 47) && Nat.ble need (2 ^ 62) then do
      let old ← srcCells L s s.n esz
      some (⟨some ⟨L.length, 0, none⟩, need, OPEN⟩, L ++ [.cells (old ++ news) e false esz])
    else none
  else bif Nat.beq s.c OPEN then
    match s.a with
    | none => none
    | some a =>
      match blen L a esz with
      | none => none
      | some x =>
        bif Nat.ble need x then
          bif news.isEmpty then some (⟨some a, need, OPEN⟩, L) else do
          let L' ← stores L (a.add (s.n * esz)) news
          some (⟨some a, need, OPEN⟩, L')
        else bif Nat.ble (need * bytes) (2 ^ 47) && Nat.ble need (2 ^ 62) && Nat.beq a.off 0 && Nat.ble s.n x then
          match L[a.block]? with
          | some (.cells cs e' false _) =>
            bif Nat.beq e' e then
              some (⟨some ⟨L.length, 0, none⟩, need, OPEN⟩, (L.set a.block .dead) ++ [.cells (cs.take (s.n * esz) ++ news) e false esz])
            else none
          | _ => none
        else none
  else none
end Go.Rlm
end

section
namespace Go.Rlm
def look : Env → Nat → Option Value
  | [], _ => none
  | (s, v) :: e, t => bif Nat.beq s t then some v else look e t
def flat1 : Value → Bool
  | .bool _ | .int _ _ | .float _ _ | .complex _ _ _ | .string _ | .nilFunc | .nilIface | .pointer none | .slice none _ _ | .map none => true
  | _ => false
/-- A value without addresses. -/
def flat : Value → Bool
  | .agg cs => cs.toList.all flat1
  | v => flat1 v
def ev (env : Env) (x : Operand) (K : Value → R) : R :=
  match x with
  | .tmp t =>
    match look env t with
    | some v => K v
    | none => none
  | .const v => hif (flat v) (K v) none
  | .global _ => none
  | .func f => K (.func (.func f) #[] #[])
def evs (env : Env) : List Operand → (List Value → R) → R
  | [], K => K []
  | x :: xs, K => ev env x fun v => evs env xs fun vs => K (v :: vs)
def evo (env : Env) (x : Option Operand) (K : Option Int → R) : R :=
  match x with
  | none => K none
  | some x => ev env x fun v =>
    match v with
    | .int _ n => K (some n)
    | _ => none
def keep (env : Env) : List Nat → Env
  | [] => []
  | t :: ts =>
    match look env t with
    | some v => (t, v) :: keep env ts
    | none => keep env ts
def put (env : Env) (dst : Option Nat) (v : Value) : Env :=
  match dst with
  | some d => (d, v) :: env
  | none => env
/-- May a slice be made: its length, its capacity, an element's bytes? -/
def room (n c : Int) (b : Nat) : Bool := decide (0 ≤ n) && decide (n ≤ c) && decide (c * b ≤ 2 ^ 47) && decide (c < 2 ^ 62)
theorem room_iff {n c : Int} {b : Nat} : room n c b = true ↔ 0 ≤ n ∧ n ≤ c ∧ c * b ≤ 2 ^ 47 ∧ c < 2 ^ 62 := by simp [room, and_assoc]
@[simp] theorem lif_true (x y : R) : lif true x y = x := rfl
@[simp] theorem lif_false (x y : R) : lif false x y = y := rfl
def bitop (op : BinOp) (k : IntKind) (x y : Int) : Int :=
  let a := BitVec.ofInt k.bits x
  let b := BitVec.ofInt k.bits y
  match op with
  | .and => k.wrap (a &&& b).toNat
  | .or => k.wrap (a ||| b).toNat
  | .xor => k.wrap (a ^^^ b).toNat
  | _ => k.wrap (a &&& ~~~b).toNat
/-- The greatest int. -/
def maxI : Int := 9223372036854775807
/-- May a text be so long? -/
def fitsS (n : Nat) : Bool := Nat.ble n 9223372036854775807
theorem fitsS_ok {n : Nat} (h : n < 9223372036854775808) : fitsS n = true := Nat.ble_eq_true_of_le (by omega)
theorem fitsS_le {n : Nat} (h : fitsS n = true) : (n : Int) ≤ maxI := by
  have := Nat.le_of_ble_eq_true h
  unfold maxI; omega
/-- Are two pointers one? Told where one of them is nil, or where they are the same. -/
def peq (a b : Option Addr) : Option Bool :=
  match b with
  | none => some a.isNone
  | some b =>
    match a with
    | none => some false
    | some a => bif decide (a = b) then some true else none
def lbin (P : Program) (op : BinOp) (t : TypeId) (x y : Value) (K : Value → R) : R :=
  match x, y with
  | .int k a, .int k' b =>
    match op with
    | .shl => when (!(decide (b < 0))) (K (.int k (k.wrap (a * 2 ^ (min b.toNat k.bits)))))
    | .shr => when (!(decide (b < 0))) (K (.int k (a.fdiv (2 ^ (min b.toNat k.bits)))))
    | .add => hif (decide (k = k')) (K (.int k (k.wrap (a + b)))) none
    | .sub => hif (decide (k = k')) (K (.int k (k.wrap (a - b)))) none
    | .mul => hif (decide (k = k')) (K (.int k (k.wrap (a * b)))) none
    | .quo => hif (decide (k = k')) (when (!(decide (b = 0))) (K (.int k (k.wrap (a.tdiv b))))) none
    | .rem => hif (decide (k = k')) (when (!(decide (b = 0))) (K (.int k (a.tmod b)))) none
    | .and => hif (decide (k = k')) (K (.int k (bitop .and k a b))) none
    | .or => hif (decide (k = k')) (K (.int k (bitop .or k a b))) none
    | .xor => hif (decide (k = k')) (K (.int k (bitop .xor k a b))) none
    | .andNot => hif (decide (k = k')) (K (.int k (bitop .andNot k a b))) none
    | .eql => hif (decide (k = k')) (K (.bool (a == b))) none
    | .neq => hif (decide (k = k')) (K (.bool (a != b))) none
    | .lss => hif (decide (k = k')) (K (.bool (decide (a < b)))) none
    | .leq => hif (decide (k = k')) (K (.bool (decide (a ≤ b)))) none
    | .gtr => hif (decide (k = k')) (K (.bool (decide (a > b)))) none
    | .geq => hif (decide (k = k')) (K (.bool (decide (a ≥ b)))) none
  | .string a, .string b =>
    match op with
    | .add => when (fitsS (a.size + b.size)) (K (.string (a ++ b)))
    | .eql => K (.bool (a.toList == b.toList))
    | .neq => K (.bool (!(a.toList == b.toList)))
    | .lss => K (.bool (Op.bytesLess a.toList b.toList))
    | .leq => K (.bool (Op.bytesLess a.toList b.toList || a.toList == b.toList))
    | .gtr => K (.bool (!(Op.bytesLess a.toList b.toList || a.toList == b.toList)))
    | .geq => K (.bool (!(Op.bytesLess a.toList b.toList)))
    | _ => none
  | .bool a, .bool b =>
    match P.underlying t, op with
    | some .bool, .eql => K (.bool (a == b))
    | some .bool, .neq => K (.bool (!(a == b)))
    | _, _ => none
  | .pointer a, .pointer b =>
    match P.underlying t, op with
    | some (.pointer e), .eql => obind (P.info? e) fun _ => obind (peq a b) fun x => K (.bool x)
    | some (.pointer e), .neq => obind (P.info? e) fun _ => obind (peq a b) fun x => K (.bool (!x))
    | _, _ => none
  | .slice a _ _, .slice none _ _ =>
    match P.underlying t, op with
    | some (.slice _), .eql => K (.bool a.isNone)
    | some (.slice _), .neq => K (.bool (!a.isNone))
    | _, _ => none
  | _, _ => none
def lun (op : UnOp) (x : Value) (K : Value → R) : R :=
  match op, x with
  | .neg, .int k n => K (.int k (k.wrap (0 - n)))
  | .xor, .int k n => K (.int k (bitop .xor k (if k.signed then -1 else k.max) n))
  | .not, .bool b => K (.bool (!b))
  | _, _ => none
/-- The byte at a place. -/
def byteAt (s : ByteArray) (i : Int) : Option Int :=
  bif decide (0 ≤ i) then (s[i.toNat]?).map fun b => (b.toNat : Int) else none
/-- s[lo:hi] of a string. -/
def subS (s : ByteArray) (lo hi : Option Int) : Option ByteArray := do
  let h ← bound hi s.size s.size
  let l ← bound lo 0 h
  some (s.extract l h)
def toBytes : List Value → ByteArray → Option ByteArray
  | [], acc => some acc
  | .int .u8 n :: vs, acc => toBytes vs (acc.push (UInt8.ofNat n.toNat))
  | _, _ => none
/-- The bytes of a slice. -/
def bytesOf (L : LHeap) (s : Sl) : Option ByteArray := do
  let cs ← srcCells L s s.n 1
  toBytes cs .empty
def nonNil : Value → Option Value
  | .func (.func f) a b => some (.func (.func f) a b)
  | .iface t v => some (.iface t v)
  | _ => none
def zeroOf (P : Program) (t : TypeId) : Option (List Value) :=
  match ((P.info? t).bind (·.zero) : Option Value) with
  | some z =>
    match cellsOf z with
    | some cs => bif cs.all flat1 then some cs else none
    | none => none
  | none => none
/-- The zero of an element of a map. -/
def zeroE (P : Program) (t : TypeId) : Option Value :=
  match ((P.info? t).bind (·.zero) : Option Value) with
  | some (.agg cs) => bif cs.toList.all flat1 then some (.agg cs) else none
  | some z => bif flat1 z then some z else none
  | none => none
def isKeyB : TypeDesc → Value → Bool
  | .bool, .bool _ => true
  | .int k, .int k' _ => decide (k' = k)
  | .string, .string _ => true
  | _, _ => false
/-- A map's entries: key, what stands there, its stamp. -/
abbrev MEnts := List (Value × Value × Nat)
def mcells (L : LHeap) : Option Nat → Option (MEnts × Nat)
  | none => some ([], 0)
  | some r => match L[r]? with
    | some (.map es ck) => some (es, ck)
    | _ => none
/-- Where a key stands among entries, and the entry. -/
def mfind (d : TypeDesc) (k : Value) : MEnts → Nat → Option (Option (Nat × Value × Nat))
  | [], _ => some none
  | e :: es, i =>
    match Instr.sameNow d k e.1 with
    | some true => some (some (i, e.2))
    | some false => mfind d k es (i + 1)
    | none => none
/-- What stands under a key: z where there is none. -/
def mlook (d : TypeDesc) (k z : Value) (es : MEnts) : Option (Value × Bool) :=
  match mfind d k es 0 with
  | some (some (_, v, _)) => some (v, true)
  | some none => some (z, false)
  | none => none
def mput (d : TypeDesc) (k v : Value) (es : MEnts) (ck : Nat) : Option (MEnts × Nat) :=
  match mfind d k es 0 with
  | some (some (i, _, b)) => some (es.set i (k, v, b), ck)
  | some none => some (es ++ [(k, v, ck)], ck + 1)
  | none => none
/-- An entry that there is from now on: what stands there, its stamp; the map. -/
def mentry (d : TypeDesc) (k z : Value) (es : MEnts) (ck : Nat) : Option (Value × Nat × MEnts × Nat) :=
  match mfind d k es 0 with
  | some (some (i, v, b)) => some (v, b, es.set i (k, v, b), ck)
  | some none => some (z, ck, es ++ [(k, z, ck)], ck + 1)
  | none => none
/-- The entry of a stamp is given a value. -/
def mstamp (n : Int) (v : Value) : MEnts → Option MEnts
  | [] => none
  | e :: es => bif decide ((e.2.2 : Int) = n) then some ((e.1, v, e.2.2) :: es) else (mstamp n v es).map (e :: ·)
def mlookup (P : Program) (t : TypeId) (v u : Value) (ok : Bool) (L : LHeap) (K : Value → LHeap → R) : R :=
  match P.underlying t with
  | some (.map key e) =>
    obind (P.underlying key) fun d => hif (isKeyB d u) (obind (zeroE P e) fun z => obind (asM v) fun p => obind (mcells L p) fun es => obind (mlook d u z es.1) fun r =>
      typed1 P e r.1 fun x => hif ok (K (.tuple #[x, .bool r.2]) L) (K x L)) none
  | _ => none
def mupdate (P : Program) (t : TypeId) (v u z : Value) (L : LHeap) (K : Value → LHeap → R) : R :=
  match P.underlying t with
  | some (.map key _) =>
    obind (P.underlying key) fun d => hif (isKeyB d u) (obind (asM v) fun p => obind p fun r => obind (mcells L (some r)) fun es => obind (mput d u z es.1 es.2) fun es' => K (.tuple #[]) (L.set r (.map es'.1 es'.2))) none
  | _ => none
def mentryAt (P : Program) (t : TypeId) (v u : Value) (L : LHeap) (K : Value → LHeap → R) : R :=
  match P.underlying t with
  | some (.map key e) =>
    obind (P.underlying key) fun d => hif (isKeyB d u) (obind (zeroE P e) fun z => obind (asM v) fun p => obind p fun r => obind (mcells L (some r)) fun es => obind (mentry d u z es.1 es.2) fun x =>
      typed1 P e x.1 fun y => K (.tuple #[y, .int .i64 x.2.1]) (L.set r (.map x.2.2.1 x.2.2.2))) none
  | _ => none
def mstore (v u z : Value) (L : LHeap) (K : Value → LHeap → R) : R :=
  obind (asM v) fun p => obind p fun r => obind (mcells L (some r)) fun es => obind (asI .i64 u) fun n => obind (mstamp n z es.1) fun es' => K (.tuple #[]) (L.set r (.map es' es.2))
/-- Parts are laid into cells: each its place, how many cells, what. -/
def fillL : List Value → List (Nat × Nat × Value) → (List Value → R) → R
  | cs, [], K => K cs
  | cs, (o, n, v) :: ps, K => obind (cellsOf v) fun vs => when (Nat.beq vs.length n) <| when (Nat.ble (o + n) cs.length) (fillL (setAll cs o vs) ps K)
def evParts (env : Env) (place : Nat → Option (Nat × Nat)) : List (Nat × Operand) → (List (Nat × Nat × Value) → R) → R
  | [], K => K []
  | (i, x) :: ps, K =>
    match place i with
    | some (o, n) => ev env x fun v => evParts env place ps fun l => K ((o, n, v) :: l)
    | none => none
/-- copy: the destination's cells. -/
def lcopy (L : LHeap) (d : Sl) (n esz : Nat) (news : List Value) : Option LHeap :=
  match d.a with
  | none => some L
  | some a => bif Nat.beq n 0 || Nat.beq esz 0 then some L else stores L a news
def srcLen : Value → Option Nat
  | .slice _ n _ => some n
  | .string s => some s.size
  | _ => none
def srcOf (L : LHeap) (esz n : Nat) : Value → Option (List Value)
  | .slice a k c => srcCells L ⟨a, k, c⟩ n esz
  | .string s => bif Nat.beq esz 1 then some (byteCells (s.extract 0 n)) else none
  | _ => none
def minmaxL (max : Bool) : Value → List Value → (Value → R) → R
  | v, [], K => K v
  | .int k x, .int k' y :: r, K => hif (decide (k = k')) (minmaxL max (.int k (if max then (if y > x then y else x) else (if y < x then y else x))) r K) none
  | _, _, _ => none
/-- unsafe.SliceData, where there is room. -/
def dataL (L : LHeap) (esz : Nat) (s : Sl) : Option (Option Addr) :=
  match s.a with
  | none => some none
  | some a =>
    bif Nat.blt s.c OPEN then (bif Nat.blt 0 s.c then some (some a) else none)
    else bif Nat.beq s.c OPEN then
      match blen L a esz with
      | some k => bif Nat.blt 0 k then some (some a) else none
      | none => none
    else none
/-- unsafe.String: the block is only read from then on. -/
def ustr (L : LHeap) (u : TypeId) (p : Option Addr) (n : Int) : Option (ByteArray × LHeap) :=
  bif decide (n = 0) then some (.empty, L) else
  match p with
  | none => none
  | some a =>
    match a.spot, L[a.block]? with
    | none, some (.cells cs e false _) =>
      bif Nat.beq a.off 0 && Nat.beq e u && decide (0 < n) && Nat.ble n.toNat cs.length && decide (n ≤ maxI) then
        (toBytes (cs.take n.toNat) .empty).map fun s => (s, L.set a.block (.cells cs e true 0))
      else none
    | _, _ => none
def lbuiltin (P : Program) (b : Builtin) (ts : Array TypeId) (vs : List Value) (L : LHeap) (K : Value → LHeap → R) : R :=
  match b, vs with
  | .len, [.string s] =>
    match (ts[0]?).bind P.underlying with
    | some .string => K (.int .i64 s.size) L
    | _ => none
  | .len, [.slice _ n _] =>
    match (ts[0]?).bind P.underlying with
    | some (.slice _) => K (.int .i64 n) L
    | _ => none
  | .cap, [.slice _ _ c] =>
    match (ts[0]?).bind P.underlying with
    | some (.slice _) => when (Nat.blt c OPEN) (K (.int .i64 c) L)
    | _ => none
  | .append, [.slice a n c, x] =>
    match (ts[0]?).bind P.underlying, (ts[1]?).bind P.underlying with
    | some (.slice e), some (.int _) =>
      match x, P.info? e with
      | .int .i64 k, some i => obind (zeroOf P e) fun z => when (Nat.beq z.length i.size) <| when (Nat.blt 0 i.size) <| when (decide (0 ≤ k) && (Nat.ble (k.toNat * i.bytes) 140737488355328 && decide (k < 9223372036854775808))) <|
        obind (app L e i.size i.bytes ⟨a, n, c⟩ k.toNat (List.replicate k.toNat z).flatten) fun r => K (.slice r.1.a r.1.n r.1.c) r.2
      | _, _ => none
    | some (.slice e), some _ =>
      match P.info? e with
      | some i => obind (zeroOf P e) fun z => when (Nat.beq z.length i.size) <| when (Nat.blt 0 i.size) <| obind (srcLen x) fun m => obind (srcOf L i.size m x) fun news => obind (app L e i.size i.bytes ⟨a, n, c⟩ m news) fun r => K (.slice r.1.a r.1.n r.1.c) r.2
      | none => none
    | _, _ => none
  | .copy, [.slice a n c, x] =>
    match (ts[0]?).bind P.underlying with
    | some (.slice e) =>
      match P.info? e with
      | some i => obind (srcLen x) fun m => obind (srcOf L i.size (min m n) x) fun news => obind (lcopy L ⟨a, n, c⟩ (min m n) i.size news) fun L' => K (.int .i64 (min m n : Nat)) L'
      | none => none
    | _ => none
  | .clear, [.slice a n c] =>
    match (ts[0]?).bind P.underlying with
    | some (.slice e) => obind (zeroOf P e) fun z => when (Nat.blt 0 z.length) <| obind (lcopy L ⟨a, n, c⟩ n z.length (List.replicate n z).flatten) fun L' => K (.tuple #[]) L'
    | _ => none
  | .min, .int k x :: vs => minmaxL false (.int k x) vs fun v => K v L
  | .max, .int k x :: vs => minmaxL true (.int k x) vs fun v => K v L
  | .unsafeSliceData, [.slice a n c] =>
    match (ts[0]?).bind P.underlying with
    | some (.slice e) => obind (dataL L (P.cellsOf e) ⟨a, n, c⟩) fun p => K (.pointer p) L
    | _ => none
  | .unsafeString, [.pointer p, .int .i64 n] =>
    match (ts[0]?).bind P.underlying with
    | some (.pointer u) => hif (Nat.beq (P.cellsOf u) 1) (obind (ustr L u p n) fun r => K (.string r.1) r.2) none
    | _ => none
  | _, _ => none
/-- A pointer on its way to unsafe.Pointer: there is something behind it. -/
def toU (L : LHeap) (a : Option Addr) : Option (Option Addr) :=
  match a with
  | none => some none
  | some a =>
    match cell L a with
    | some _ => some (some a)
    | none => none
/-- .. and back: an object of that type, of n cells, begins there. -/
def ofU (L : LHeap) (u : TypeId) (n : Nat) (a : Option Addr) : Option (Option Addr) :=
  match a with
  | none => some none
  | some a =>
    match a.spot, L[a.block]? with
    | none, some (.cells cs e false _) => bif Nat.beq a.off 0 && Nat.beq e u && Nat.ble n cs.length && Nat.blt 0 n then some (some a) else none
    | _, _ => none
def lconv (P : Program) (s d : TypeId) (x : Value) (L : LHeap) (K : Value → LHeap → R) : R :=
  match P.underlying s, P.underlying d, x with
  | some _, some (.int k), .int _ n => K (.int k (k.wrap n)) L
  | some _, some .string, .string s => K (.string s) L
  | some (.slice e), some .string, .slice a n c =>
    match P.underlying e with
    | some (.int .u8) => obind (bytesOf L ⟨a, n, c⟩) fun s => K (.string s) L
    | _ => none
  | some _, some (.slice e), .string s =>
    match P.underlying e with
    | some (.int .u8) => hif (Nat.beq (P.cellsOf e) 1) (K (.slice (some ⟨L.length, 0, none⟩) s.size OPEN) (L ++ [.cells (byteCells s) e false 1])) none
    | _ => none
  | some (.pointer t), some .unsafePointer, .pointer a => hif (Nat.blt 0 (P.cellsOf t)) (obind (toU L a) fun b => K (.pointer b) L) none
  | some .unsafePointer, some (.pointer u), .pointer a => obind (ofU L u (P.cellsOf u) a) fun b => K (.pointer b) L
  | _, _, _ => none
def lslice (P : Program) (t : TypeId) (x : Value) (lo hi mx : Option Int) (L : LHeap) (K : Value → R) : R :=
  match P.underlying t, x with
  | some .string, .string s =>
    match mx with
    | none => obind (subS s lo hi) fun r => K (.string r)
    | some _ => none
  | some (.slice e), .slice a n c => hif (Nat.blt 0 (P.cellsOf e)) (obind (cut L ⟨a, n, c⟩ lo hi mx (P.cellsOf e)) fun r => K (.slice r.a r.n r.c)) none
  | some (.array n e), .pointer (some a) => hif (Nat.blt 0 (P.cellsOf e) && Nat.blt n OPEN) (obind (cut L ⟨some a, n, n⟩ lo hi mx (P.cellsOf e)) fun r => K (.slice r.a r.n r.c)) none
  | _, _ => none
/-- A part of a struct or an array. -/
def partL (P : Program) (t : TypeId) (cs : Array Value) (off : Nat) (K : Value → R) : R :=
  hif (P.underlying t).isSome (hif (isAggT P t) (K (.agg (cs.extract off (off + P.cellsOf t)))) (obind (cs.toList[off]?) fun v => typed1 P t v K)) none
/-- Equality of what has no addresses. -/
def eqFields (P : Program) (E : TypeId → Value → Value → (Bool → R) → R) (xs ys : Array Value) : List Field → (Bool → R) → R
  | [], K => K true
  | f :: fs, K => hif (f.name == "_") none (partL P f.type xs f.offset fun u => partL P f.type ys f.offset fun v => E f.type u v fun b => eqFields P E xs ys fs fun c => K (b && c))
def eqL (P : Program) : Nat → TypeId → Value → Value → (Bool → R) → R
  | 0, _, _, _, _ => none
  | d + 1, t, x, y, K =>
    match P.underlying t, x, y with
    | some (.int _), .int k a, .int k' b => hif (decide (k = k')) (K (a == b)) none
    | some .bool, .bool a, .bool b => K (a == b)
    | some .string, .string a, .string b => K (a == b)
    | some (.struct fs), .agg xs, .agg ys => hif (P.stoodInHeld t) none (eqFields P (eqL P d) xs ys fs.toList K)
    | _, _, _ => none
def isConst : Operand → Bool
  | .const _ => true
  | _ => false
/-- What lbin tells, and equality of structs, and of interface values against nil. -/
def lbin2 (P : Program) (op : BinOp) (t : TypeId) (x y : Operand) (v u : Value) (K : Value → R) : R :=
  match v, u with
  | .agg xs, .agg ys =>
    match op with
    | .eql => hif (P.eqGuardType P.depth t) none (eqL P 20 t (.agg xs) (.agg ys) fun b => K (.bool b))
    | .neq => hif (P.eqGuardType P.depth t) none (eqL P 20 t (.agg xs) (.agg ys) fun b => K (.bool (!b)))
    | _ => none
  | .iface _ _, .nilIface =>
    match P.underlying t, op with
    | some (.interface _), .eql => K (.bool false)
    | some (.interface _), .neq => K (.bool true)
    | _, _ => none
  | .nilIface, .nilIface =>
    match P.underlying t, op with
    | some (.interface _), .eql => hif (isConst y) (K (.bool true)) none
    | some (.interface _), .neq => hif (isConst y) (K (.bool false)) none
    | _, _ => none
  | v, u => lbin P op t v u K
def lop (P : Program) (env : Env) (L : LHeap) (o : Oper) (K : Value → LHeap → R) : R :=
  match o.op with
  | .move x | .assign x => ev env x fun v => K v L
  | .pick c a b => ev env c fun v =>
    match v with
    | .bool t => lif t (ev env a fun v => K v L) (ev env b fun v => K v L)
    | _ => none
  | .alloc t => obind (zeroOf P t) fun z => K (.pointer (some ⟨L.length, 0, none⟩)) (L ++ [.cells z t false 0])
  | .box t x => ev env x fun v => obind (cellsOf v) fun vs => K (.pointer (some ⟨L.length, 0, none⟩)) (L ++ [.cells vs t false 0])
  | .build t parts =>
    match P.underlying t with
    | some (.struct fs) => hif (fs.toList.all (fun f => (P.info? f.type).isSome)) (obind (zeroOf P t) fun z => evParts env (fun i => (fs[i]?).map fun f => (f.offset, P.cellsOf f.type)) parts.toList fun ps => fillL z ps fun cs => K (.agg cs.toArray) L) none
    | some (.array _ e) => hif ((P.info? e).isSome) (obind (zeroOf P t) fun z => evParts env (fun i => some (i * P.cellsOf e, P.cellsOf e)) parts.toList fun ps => fillL z ps fun cs => K (.agg cs.toArray) L) none
    | _ => none
  | .buildSlice t n parts =>
    match P.underlying t with
    | some (.slice e) => obind (zeroOf P e) fun z => evParts env (fun i => some (i * P.cellsOf e, P.cellsOf e)) parts.toList fun ps =>
        when (Nat.beq z.length (P.cellsOf e)) <| when (Nat.blt 0 z.length) <| when (Nat.ble (n * z.length) (2 ^ 24)) <| fillL (List.replicate n z).flatten ps fun cs => K (.slice (some ⟨L.length, 0, none⟩) n n) (L ++ [.cells cs e false 0])
    | _ => none
  | .load t a => ev env a fun v =>
    match v with
    | .pointer (some ad) => loadT P t L ad fun v => K v L
    | _ => none
  | .store t a x => ev env a fun v => ev env x fun u =>
    match v with
    | .pointer (some ad) => obind (cellsOf u) fun vs => when (Nat.beq vs.length (P.cellsOf t)) <| hif ((P.underlying t).isSome) (obind (stores L ad vs) (fun L' => K (.tuple #[]) L')) none
    | _ => none
  | .nilCheck x => ev env x fun v =>
    match v with
    | .pointer p => obind p fun a => K (.pointer (some a)) L
    | v => obind (nonNil v) fun v => K v L
  | .binOp op t x y _ => ev env x fun v => ev env y fun u => lbin2 P op t x y v u fun r => K r L
  | .unOp op _ x => ev env x fun v => lun op v fun r => K r L
  | .convert s d x => ev env x fun v => lconv P s d v L K
  | .typeAssert x _ t ok => ev env x fun v =>
    match v with
    | .iface t' u =>
      hif (Nat.beq t' t)
        (match P.underlying t with
        | some (.interface _) | none => none
        | some _ => hif ok (K (.tuple #[u, .bool true]) L) (K u L)) none
    | _ => none
  | .makeInterface t x => ev env x fun v =>
    match P.underlying t with
    | some (.interface _) | none => none
    | some _ => K (.iface t v) L
  | .makeFunc (.func f) first cap => evs env first.toList fun az => evs env cap.toList fun bs => K (.func (.func f) az.toArray bs.toArray) L
  | .makeSlice t n c => ev env n fun v => ev env c fun u =>
    match P.underlying t, v, u with
    | some (.slice e), .int _ n, .int _ c =>
      match P.info? e with
      | some i => obind (zeroOf P e) fun z => when (Nat.beq z.length i.size) <| when (Nat.blt 0 z.length) <| when (room n c i.bytes) <|
          (K (.slice (some ⟨L.length, 0, none⟩) n.toNat c.toNat) (L ++ [.cells (List.replicate c.toNat z).flatten e false 0]))
      | none => none
    | _, _, _ => none
  | .slice t x lo hi mx => ev env x fun v => evo env lo fun lo => evo env hi fun hi => evo env mx fun mx => lslice P t v lo hi mx L fun r => K r L
  | .fieldAddr s x f => ev env x fun v =>
    match P.underlying s, v with
    | some (.struct fs), .pointer (some a) =>
      match fs[f]? with
      | some f => hif (Nat.blt 0 (P.cellsOf f.type)) (K (.pointer (some (a.add f.offset))) L) none
      | none => none
    | _, _ => none
  | .field t x f => ev env x fun v =>
    match P.underlying t, v with
    | some (.struct fs), .agg cs =>
      match fs[f]? with
      | some f => partL P f.type cs f.offset fun v => K v L
      | none => none
    | _, _ => none
  | .indexAddr t x i => ev env x fun v => ev env i fun u =>
    match P.underlying t, v, u with
    | some (.slice e), .slice a n c, .int _ i => hif (Nat.blt 0 (P.cellsOf e)) (obind (idx ⟨a, n, c⟩ i (P.cellsOf e)) fun a => K (.pointer (some a)) L) none
    | some (.array n e), .pointer (some a), .int _ i => hif (Nat.blt 0 (P.cellsOf e)) (when (decide (0 ≤ i)) <| when (decide (i < n)) (K (.pointer (some (a.add (i.toNat * P.cellsOf e)))) L)) none
    | _, _, _ => none
  | .index t x i => ev env x fun v => ev env i fun u =>
    match P.underlying t, v, u with
    | some .string, .string s, .int _ i => obind (byteAt s i) fun b => K (.int .u8 b) L
    | some (.array n e), .agg cs, .int _ i => when (decide (0 ≤ i)) <| when (decide (i < n)) <|
        partL P e cs (i.toNat * P.cellsOf e) fun v => K v L
    | _, _, _ => none
  | .makeMap _ none => K (.map (some L.length)) (L ++ [.map [] 0])
  | .lookup t x i ok => ev env x fun v => ev env i fun u => mlookup P t v u ok L K
  | .mapUpdate t x i y => ev env x fun v => ev env i fun u => ev env y fun z => mupdate P t v u z L K
  | .mapEntry t x i => ev env x fun v => ev env i fun u => mentryAt P t v u L K
  | .entryStore _ x s y => ev env x fun v => ev env s fun u => ev env y fun z => mstore v u z L K
  | .extract t i => ev env t fun v =>
    match v with
    | .tuple vs => obind (vs.toList[i]?) fun v => K v L
    | _ => none
  | .call c =>
    match c.callee with
    | .builtin b => evs env c.args.toList fun vs => lbuiltin P b c.argTypes vs L K
    | _ => none
  | _ => none
abbrev Caller := FuncId → List Value → LHeap → R
/-- The numbers from here on are those of ranges over functions: what calls them calls yield. -/
def YB : Nat := 1099511627776
def lapp (call : Caller) (f : Value) (args : List Value) (L : LHeap) : R :=
  match f with
  | .func (.func g) az bs => hif (Nat.blt g YB) (call g (az.toList ++ args ++ bs.toList) L) none
  | .func (.yield j) _ _ => call (j + YB) args L
  | _ => none
/-- A function, but no yield. -/
def lappF (call : Caller) (f : Value) (args : List Value) (L : LHeap) : R :=
  match f with
  | .func (.func g) az bs => hif (Nat.blt g YB) (call g (az.toList ++ args ++ bs.toList) L) none
  | _ => none
/-- An operation, calls among them. -/
def lstep (P : Program) (call : Caller) (env : Env) (L : LHeap) (o : Oper) (K : Value → LHeap → R) : R :=
  match o.op with
  | .call { callee := .value f, args, .. } => ev env f fun fv => evs env args.toList fun vs => lbind (lapp call fv vs L) fun v L' => typed P o.type v fun v => K v L'
  | .panic x => ev env x fun v =>
    match v with
    | .iface t u => some (.pan (.iface t u) L)
    | _ => none
  | _ => lop P env L o K
/-- The same in a region that leaves its order open: nothing may panic. -/
def lstepD (P : Program) (call : Caller) (env : Env) (L : LHeap) (o : Oper) (K : Value → LHeap → R) : R :=
  match o.op with
  | .call { callee := .value f, args, .. } => ev env f fun fv => evs env args.toList fun vs => lbindR (lapp call fv vs L) fun v L' => typed P o.type v fun v => K v L'
  | _ => lop P env L o K
/-- Is the operation asked by a later one whether it held? -/
def asked (ops : List Oper) (i : Nat) : Bool := ops.any fun o => match o.guard with | some (j, _) => Nat.beq j i | none => false
/-- A bool that is asked: both ways, each with its own answer. -/
def split (b : Bool) (v : Value) (K : Value → R) : R :=
  hif b
    (match v with
    | .bool c => lif c (K (.bool true)) (K (.bool false))
    | v => K v)
    (K v)
def dstOf (ops : List Oper) (j : Nat) : Option Nat := (ops[j]?).bind (·.dst)
/-- Is it wanted? none: that can't be seen. -/
def wants (ops : List Oper) (env : Env) (o : Oper) : Option Bool :=
  match o.guard with
  | none => some true
  | some (j, w) =>
    match dstOf ops j with
    | none => none
    | some d =>
      match look env d with
      | some (.bool b) => some (b == w)
      | some (.tuple vs) => bif vs.toList.isEmpty then some false else none
      | _ => none
/-- A region, in the order of its text. -/
def lrun (P : Program) (call : Caller) (ops : List Oper) : (i : Nat) → List Oper → Env → LHeap → (Env → LHeap → R) → R
  | _, [], env, L, K => K env L
  | i, o :: rest, env, L, K =>
    match wants ops env o with
    | some true => lstep P call env L o fun v L' => split (asked ops i) v fun v => lrun P call ops (i + 1) rest (put env o.dst v) L' K
    | some false => lrun P call ops (i + 1) rest (put env o.dst (.tuple #[])) L K
    | none => none
/-- A bit. -/
def tbit (m n : Nat) : Bool := Nat.beq (m / 2 ^ n % 2) 1
/-- What is before each operation, az bits. -/
def befores : List Oper → List Nat → List Nat
  | [], acc => acc
  | o :: rest, acc => befores rest (acc ++ [o.after.toList.foldl (fun s e => bif Region.binds .any e then s ||| 2 ^ e.on ||| acc.getD e.on 0 else s) 0])
inductive Kind where
  | pure | read | write
  deriving DecidableEq
def kindOf (P : Program) : Op → Kind
  | .load .. | .lookup .. => .read
  | .slice t .. =>
    match P.underlying t with
    | some .string => .pure
    | _ => .read
  | .convert s d _ =>
    match P.underlying s, P.underlying d with
    | some (.slice _), some .string => .read
    | some (.pointer _), some .unsafePointer => .read
    | some .unsafePointer, some (.pointer _) => .read
    | _, some (.slice _) => .write
    | _, _ => .pure
  | .call { callee := .builtin .len, argTypes, .. } =>
    match (argTypes[0]?).bind P.underlying with
    | some .string | some (.slice _) => .pure
    | _ => .write
  | .call _ => .write
  | .move _ | .assign _ | .pick .. | .build .. | .nilCheck _ | .binOp .. | .unOp .. | .makeInterface .. | .typeAssert .. | .makeFunc .. | .fieldAddr .. | .field .. | .indexAddr .. | .index .. | .extract .. => .pure
  | _ => .write
/-- Plain values, told the same by a run. -/
def fast1 : Value → Value → Bool
  | .int k n, .int k' n' => decide (k = k') && decide (n = n')
  | .bool a, .bool b => a == b
  | .string a, .string b => decide (a.data.toList = b.data.toList)
  | .pointer none, .pointer none => true
  | .pointer (some a), .pointer (some b) => decide (a = b)
  | .slice none n c, .slice none n' c' => Nat.beq n n' && Nat.beq c c'
  | .slice (some a) n c, .slice (some b) n' c' => decide (a = b) && (Nat.beq n n' && Nat.beq c c')
  | .nilIface, .nilIface => true
  | .nilFunc, .nilFunc => true
  | _, _ => false
theorem fast1_eq {v u : Value} (h : fast1 v u = true) : v = u := by
  unfold fast1 at h
  split at h
  · simp only [Bool.and_eq_true, decide_eq_true_eq] at h; rw [h.1, h.2]
  · rw [eq_of_beq h]
  · rename_i a b
    have h := of_decide_eq_true h
    have : a = b := by cases a; cases b; congr 1; exact Array.ext' h
    rw [this]
  · rfl
  · rw [of_decide_eq_true h]
  · simp only [Bool.and_eq_true] at h; rw [Nat.eq_of_beq_eq_true h.1, Nat.eq_of_beq_eq_true h.2]
  · simp only [Bool.and_eq_true] at h; rw [of_decide_eq_true h.1, Nat.eq_of_beq_eq_true h.2.1, Nat.eq_of_beq_eq_true h.2.2]
  · rfl
  · rfl
  · cases h
def fastL : List Value → List Value → Bool
  | [], [] => true
  | v :: vs, u :: us => fast1 v u && fastL vs us
  | _, _ => false
theorem fastL_eq : ∀ {vs us : List Value}, fastL vs us = true → vs = us
  | [], [], _ => rfl
  | v :: vs, u :: us, h => by
    simp only [fastL, Bool.and_eq_true] at h
    rw [fast1_eq h.1, fastL_eq h.2]
  | [], _ :: _, h => by cases h
  | _ :: _, [], h => by cases h
def fast : Value → Value → Bool
  | .agg cs, .agg cs' => fastL cs.toList cs'.toList
  | .tuple cs, .tuple cs' => fastL cs.toList cs'.toList
  | v, u => fast1 v u
theorem fast_eq {v u : Value} (h : fast v u = true) : v = u := by
  unfold fast at h
  split at h
  · rw [Array.ext' (fastL_eq h)]
  · rw [Array.ext' (fastL_eq h)]
  · exact fast1_eq h
noncomputable def same (v u : Value) : Bool := fast v u || @decide (v = u) (Classical.propDecidable _)
@[simp] theorem same_self (v : Value) : same v v = true := by simp [same]
theorem same_eq {v u : Value} (h : same v u = true) : v = u := by
  rw [same, Bool.or_eq_true] at h
  rcases h with h | h
  · exact fast_eq h
  · simpa using h
/-- An operation that has read: itself, what it saw, what came of it. -/
structure Read where
  o : Oper
  env : Env
  v : Value
/-- What was read is read in another heap, too. -/
noncomputable def reread (P : Program) (r : Read) (L : LHeap) (K : R) : R := lop P r.env L r.o fun v _ => when (same r.v v) K
noncomputable def rereadIn (P : Program) (r : Read) (bits : Nat) : List (Nat × LHeap) → R → R
  | [], K => K
  | (q, H) :: ps, K => hif (tbit bits q) (rereadIn P r bits ps K) (reread P r H (rereadIn P r bits ps K))
noncomputable def rereadAll (P : Program) (bits : Nat) (L : LHeap) : List (Nat × Read) → R → R
  | [], K => K
  | (q, r) :: rs, K => hif (tbit bits q) (rereadAll P bits L rs K) (reread P r L (rereadAll P bits L rs K))
def pastOk (bits : Nat) : List (Nat × LHeap) → Bool
  | [] => true
  | (q, _) :: ps => tbit bits q && pastOk bits ps
/-- It makes a slice, of a constant size. -/
def isMake (o : Oper) : Bool :=
  o.guard.isNone && match o.op with
    | .makeSlice _ (.const _) (.const _) => true
    | _ => false
/-- The first two make slices, in whatever order; all others come behind the first one. -/
def twoMakes (ops : List Oper) (bef : List Nat) : Bool :=
  match ops with
  | o0 :: o1 :: _ => isMake o0 && isMake o1 && (match o0.dst, o1.dst with | some d0, some d1 => !Nat.beq d0 d1 | _, _ => false) &&
      (Nat.beq (bef.getD 0 0) 0 && Nat.beq (bef.getD 1 0) 0 && (List.range ops.length).all fun j => Nat.ble j 1 || tbit (bef.getD j 0) 0)
  | _ => false
/-- A region that leaves its order open: the text's order, and it is seen that no other one makes a difference. -/
noncomputable def ldraw (P : Program) (call : Caller) (ops : List Oper) (bef : List Nat) (tw : Bool) : (i : Nat) → List Oper → Env → LHeap → List (Nat × LHeap) → List (Nat × Read) → (Env → LHeap → R) → R
  | _, [], env, L, _, _, K => K env L
  | i, o :: rest, env, L, past, log, K =>
    match wants ops env o with
    | some true =>
      match kindOf P o.op with
      | .pure => lop P env L o fun v _ => split (asked ops i) v fun v => ldraw P call ops bef tw (i + 1) rest (put env o.dst v) L past log K
      | .read => lop P env L o fun v _ => rereadIn P ⟨o, env, v⟩ (bef.getD i 0) past <|
          split (asked ops i) v fun v => ldraw P call ops bef tw (i + 1) rest (put env o.dst v) L past ((i, ⟨o, env, v⟩) :: log) K
      | .write => when (pastOk (bef.getD i 0) past || (tw && Nat.beq i 1)) <|
          lstepD P call env L o fun v L' => rereadAll P (bef.getD i 0) L' log <|
            split (asked ops i) v fun v => ldraw P call ops bef tw (i + 1) rest (put env o.dst v) L' ((i, L) :: past) log K
    | some false => ldraw P call ops bef tw (i + 1) rest (put env o.dst (.tuple #[])) L past log K
    | none => none
/-- The temporaries that an operation names. -/
def tmpsOf (ops : List Oper) (o : Oper) : List Nat :=
  (o.op.operands.toList.filterMap fun | .tmp t => some t | _ => none) ++ (match o.guard with | some (j, _) => (dstOf ops j).toList | none => [])
/-- Of two operations, of which one writes a temporary that the other one writes or reads, one is before the other. -/
def ordered (ops : List Oper) (bef : List Nat) : Bool :=
  ((List.range ops.length).all fun j =>
    match ops[j]? with
    | some o => o.after.toList.all fun e => bif Region.binds .any e then Nat.blt e.on j else true
    | none => true) &&
  (List.range ops.length).all fun j => (List.range ops.length).all fun i =>
    bif Nat.beq i j then true else
    match ops[i]?, ops[j]? with
    | some x, some y =>
      match x.dst with
      | some d => bif (tmpsOf ops y).any (Nat.beq d) || (match y.dst with | some d' => Nat.beq d d' | none => false) then tbit (bef.getD (max i j) 0) (min i j) else true
      | none => true
    | _, _ => true
abbrev LK := LExit → Env → LHeap → R
def lloop (B : LK → Env → LHeap → R) (lv : List Nat) (K : LK) : Nat → Env → LHeap → R
  | 0, _, _ => none
  | n + 1, env, L => B (fun e env L =>
      match e with
      | .normal => lloop B lv K n (keep env lv) L
      | e => K e env L) env L
def firstRegion : Code → Nat
  | .region id _ _ => id
  | .seq a _ => firstRegion a
  | .block _ b | .loop b | .scope b => firstRegion b
  | _ => 0
/-- The ways in which a range's body may be left, but by its end. -/
def exitsOf : Code → List Nat → List LExit
  | .seq a b, bs | .cond _ a b, bs => exitsOf a bs ++ exitsOf b bs
  | .block id b, bs => exitsOf b (id :: bs)
  | .loop b, bs | .scope b, bs => exitsOf b bs
  | .exit id, bs => bif bs.any (Nat.beq id) then [] else [.exit id]
  | .ret, _ => [.ret]
  | _, _ => []
def exitEq : LExit → LExit → Bool
  | .normal, .normal | .ret, .ret => true
  | .exit i, .exit j => Nat.beq i j
  | _, _ => false
theorem exitEq_eq {a b : LExit} (h : exitEq a b = true) : a = b := by
  unfold exitEq at h
  split at h
  · rfl
  · rfl
  · rw [Nat.eq_of_beq_eq_true h]
  · cases h
def exitsOnce : List LExit → List LExit
  | [] => []
  | x :: xs => bif xs.any (exitEq x) then exitsOnce xs else x :: exitsOnce xs
/-- Is it left so? -/
def lex (e x : LExit) (a b : R) : R := bif exitEq e x then a else b
def leftAs : List LExit → LExit → (LExit → R) → R
  | [], _, _ => none
  | x :: xs, e, K => lex e x (K x) (leftAs xs e K)
/-- The end of a range over a function. -/
def lend (j : Nat) (L : LHeap) (X : LHeap → R) (Y : LExit → LHeap → R) : R :=
  match L[j]? with
  | some (.loop _ _ _ .ready) => X (L.set j .dead)
  | some (.loop _ _ _ (.left e)) => Y e (L.set j .dead)
  | _ => none
/-- A round begins. -/
def lbusy (j : Nat) (L : LHeap) (K : LHeap → R) : R :=
  match L[j]? with
  | some (.loop f id env .ready) => K (L.set j (.loop f id env .busy))
  | _ => none
/-- A round ends. -/
def lleave (j : Nat) (e : LExit) (L : LHeap) : R :=
  match L[j]? with
  | some (.loop f id env .busy) =>
    match e with
    | .normal => some (.ret (.bool true) (L.set j (.loop f id env .ready)))
    | e => some (.ret (.bool false) (L.set j (.loop f id env (.left e))))
  | _ => none
/-- The ranges over functions of a piece of code, but those within others. -/
def rids : Code → List Nat
  | .seq a b | .cond _ a b => rids a ++ rids b
  | .block _ b | .loop b | .scope b => rids b
  | .rangeFunc _ _ _ b => [firstRegion b]
  | _ => []
def distinct : List Nat → Bool
  | [] => true
  | x :: xs => !xs.any (Nat.beq x) && distinct xs
def rangeIn (id : Nat) : Code → Option (Array Tmp × Code × Code)
  | .seq a b | .cond _ a b =>
    match rangeIn id a with
    | some x => some x
    | none => rangeIn id b
  | .block _ b | .loop b | .scope b => rangeIn id b
  | .rangeFunc _ ps a b => bif Nat.beq (firstRegion b) id then some (ps, a, b) else none
  | _ => none
def putAll : Env → List Nat → List Value → Env
  | env, t :: ts, v :: vs => putAll ((t, v) :: env) ts vs
  | env, _, _ => env
/-- Each operation writes a temporary that there is. -/
def dstOk (N : Nat) (ops : List Oper) : Bool :=
  ops.all fun o =>
    match o.dst with
    | some d => Nat.blt d N
    | none => true
/-- From here on: the slots that are kept where a region begins (a slot that does not count, and these). -/
def CB : Nat := 1099511627776
def trim (l : List Nat) (env : Env) : Env :=
  match l with
  | [] => env
  | _ :: ts => keep env ts
/-- Some fuel is left. -/
noncomputable def fuel (n : Nat) (x : R) : R := Nat.rec none (fun _ _ => x) n
/-- A region begins (laid open ahead of 'when' and 'lif'); where slots are kept it takes that some fuel is left: so no printed text looks behind it. -/
noncomputable def lreg (_id : Nat) (l : List Nat) (n : Nat) (F : Env → LHeap → R) (env : Env) (L : LHeap) : R :=
  (fun _ : Unit => (List.rec (F env L) (fun _ _ _ => fuel n (F env L)) l : R)) h6
theorem lreg_some {id : Nat} {l : List Nat} {n : Nat} {F : Env → LHeap → R} {env : Env} {L : LHeap} {r : LR} (h : lreg id l n F env L = some r) : F env L = some r := by
  cases l with
  | nil => exact h
  | cons x l =>
    cases n with
    | zero => cases h
    | succ n => exact h
/-- A region. -/
noncomputable def lregion (P : Program) (call : Caller) (N : Nat) (ops : Array Oper) (draw : Bool) (K : LK) (env : Env) (L : LHeap) : R :=
  hif (dstOk N ops.toList)
    (hif draw (hif (ordered ops.toList (befores ops.toList [])) (ldraw P call ops.toList (befores ops.toList []) (twoMakes ops.toList (befores ops.toList [])) 0 ops.toList env L [] [] (K .normal)) none)
      (lrun P call ops.toList 0 ops.toList env L (K .normal))) none
/-- T: of each loop (by its first region) the slots that are kept from round to round; of a region, by its number and CB, those that are kept where it begins. -/
noncomputable def lexec (P : Program) (T : Nat → List Nat) (f : FuncId) (N : Nat) (call : Caller) (n : Nat) (c : Code) : LK → Env → LHeap → R :=
  c.rec
    (skip := fun K env L => K .normal env L)
    (region := fun id ops draw K env L => lreg id (T (CB + id)) n (fun env L => lregion P call N ops draw K env L) (trim (T (CB + id)) env) L)
    (seq := fun _ _ A B K env L => A (fun e env L =>
      match e with
      | .normal => B K env L
      | e => K e env L) env L)
    (cond := fun c _ _ A B K env L => ev env c fun v =>
      match v with
      | .bool t => lif t (A K env L) (B K env L)
      | _ => none)
    (block := fun id _ B K env L => B (fun e env L =>
      match e with
      | .exit id' => hif (Nat.beq id' id) (K .normal env L) (K (.exit id') env L)
      | e => K e env L) env L)
    (loop := fun b B K env L => lloop B (T (firstRegion b)) K n (keep env (T (firstRegion b))) L)
    (rangeFunc := fun g _ _ b _ _ K env L => ev env g fun gv =>
      lbindR (lappF call gv [.func (.yield L.length) #[] #[]] (L ++ [.loop f (firstRegion b) (keep env (T (firstRegion b))) .ready])) fun _ L2 =>
      lend L.length L2 (fun L3 => K .normal env L3) (fun e L3 => leftAs (exitsOnce (exitsOf b [])) e fun e => K e env L3))
    (exit := fun id K env L => K (.exit id) env L)
    (scope := fun _ B K env L => B K env L)
    (label := fun _ K env L => K .normal env L)
    (goto := fun _ _ _ _ => none)
    (ret := fun K env L => K .ret env L)
    (refuse := fun _ _ _ _ => none)
/-- What a function hands back. -/
def lresults (P : Program) (env : Env) (L : LHeap) : List ResultVar → (List Value → R) → R
  | [], K => K []
  | .tmp t :: rs, K => ev env (.tmp t) fun v => lresults P env L rs fun vs => K (v :: vs)
  | .cell t ty :: rs, K => ev env (.tmp t) fun v =>
    match v with
    | .pointer (some ad) => loadT P ty L ad fun v => lresults P env L rs fun vs => K (v :: vs)
    | _ => none
def lret (P : Program) (fn : Func) : LK := fun e env L =>
  match e with
  | .exit _ => none
  | _ => lresults P env L fn.results.toList fun vs =>
    match vs with
    | [v] => some (.ret v L)
    | vs => some (.ret (.tuple vs.toArray) L)
def enum (args : List Value) (i : Nat) : Env :=
  match args with
  | [] => []
  | v :: vs => (i, v) :: enum vs (i + 1)
/-- A function that the machine does not step through: what it answers, out of its calls. -/
abbrev Spec := Caller → List Value → LHeap → R
/-- What a function answers, out of its arguments and the heap. -/
abbrev PSpec := List Value → LHeap → R
/-- keep: of each function's loops the slots that are kept; spec: the functions that are not stepped through; pure: those that are answered where they are called. -/
structure Tab where
  keep : Nat → Nat → List Nat
  spec : FuncId → Option Spec
  pure : FuncId → Option PSpec
/-- Calls: what the table answers at once, and the others. -/
def callee (T : Tab) (call : Caller) : Caller := fun f args L =>
  match T.pure f with
  | some g => g args L
  | none => call f args L
/-- One round of a range over a function. -/
noncomputable def lround (P : Program) (T : Tab) (call : Caller) (n : Nat) (f id : Nat) (env : Env) (j : Nat) (args : List Value) (L : LHeap) : R :=
  match P.funcs[f]? with
  | some fn =>
    match fn.body with
    | some c =>
      match rangeIn id c with
      | some (ps, a, b) =>
        hif (Nat.beq args.length ps.size && ps.toList.all (fun t => Nat.blt t fn.ntmps) && (rids a).isEmpty && (rids b).isEmpty)
          (lexec P (T.keep f) f fn.ntmps call n a (fun e env L =>
            match e with
            | .normal => lbusy j L fun L => lexec P (T.keep f) f fn.ntmps call n b (fun e _ L => lleave j e L) env L
            | _ => none) (putAll env ps.toList args) L) none
      | none => none
    | none => none
  | none => none
noncomputable def lyield (P : Program) (T : Tab) (call : Caller) (n : Nat) (j : Nat) (args : List Value) (L : LHeap) : R :=
  match L[j]? with
  | some (.loop f id env .ready) => lbindR (lround P T call n f id env j args L) fun v L => some (.ret v L)
  | _ => none
noncomputable def lcall (P : Program) (T : Tab) : Nat → Caller
  | 0, _, _, _ => none
  | n + 1, f, args, L =>
    hif (Nat.ble YB f) (lyield P T (callee T (lcall P T n)) n (f - YB) args L)
      (match T.spec f with
      | some g => g (callee T (lcall P T n)) args L
      | none =>
        match P.funcs[f]? with
        | some fn =>
          match fn.body with
          | some c => hif (Nat.ble args.length fn.ntmps && distinct (rids c)) (lexec P (T.keep f) f fn.ntmps (callee T (lcall P T n)) n c (lret P fn) (enum args 0) L) none
          | none => none
        | none => none)
end Go.Rlm
end

section
namespace Go.Rlm
/-- The code at a path: 0: the first part, or the body; 1: the second part. -/
noncomputable def sub (c : Code) : List Nat → Code :=
  c.rec
    (skip := fun _ => .skip)
    (region := fun id ops draw _ => .region id ops draw)
    (seq := fun a b A B p => match p with | [] => .seq a b | i :: p => i.rec (A p) (fun _ _ => B p))
    (cond := fun x a b A B p => match p with | [] => .cond x a b | i :: p => i.rec (A p) (fun _ _ => B p))
    (block := fun id b B p => match p with | [] => .block id b | _ :: p => B p)
    (loop := fun b B p => match p with | [] => .loop b | _ :: p => B p)
    (rangeFunc := fun f ps a b _ _ _ => .rangeFunc f ps a b)
    (exit := fun id _ => .exit id)
    (scope := fun b B p => match p with | [] => .scope b | _ :: p => B p)
    (label := fun l _ => .label l)
    (goto := fun l _ => .goto l)
    (ret := fun _ => .ret)
    (refuse := fun w _ => .refuse w)
/-- What comes behind the code at a path; js: what is left of the rounds of the loops round it. -/
noncomputable def kont (P : Program) (T : Nat → List Nat) (f : FuncId) (N : Nat) (call : Caller) (n : Nat) (c : Code) : List Nat → List Nat → LK → LK :=
  c.rec
    (skip := fun _ _ K => K)
    (region := fun _ _ _ _ _ K => K)
    (seq := fun _ b A B p js K => match p with
      | [] => K
      | i :: p => i.rec (A p js (fun e env L =>
          match e with
          | .normal => lexec P T f N call n b K env L
          | e => K e env L)) (fun _ _ => B p js K))
    (cond := fun _ _ _ A B p js K => match p with | [] => K | i :: p => i.rec (A p js K) (fun _ _ => B p js K))
    (block := fun id _ B p js K => match p with
      | [] => K
      | _ :: p => B p js (fun e env L =>
        match e with
        | .exit id' => hif (Nat.beq id' id) (K .normal env L) (K (.exit id') env L)
        | e => K e env L))
    (loop := fun b B p js K => match p, js with
      | _ :: p, j :: js => B p js (fun e env L =>
        match e with
        | .normal => lloop (lexec P T f N call n b) (T (firstRegion b)) K j (keep env (T (firstRegion b))) L
        | e => K e env L)
      | _, _ => K)
    (rangeFunc := fun _ _ _ _ _ _ _ _ K => K)
    (exit := fun _ _ _ K => K)
    (scope := fun _ B p js K => match p with | [] => K | _ :: p => B p js K)
    (label := fun _ _ _ K => K)
    (goto := fun _ _ _ K => K)
    (ret := fun _ _ K => K)
    (refuse := fun _ _ _ K => K)
/-- The loop whose body is at a path. -/
noncomputable def loopAt (P : Program) (T : Tab) (f : FuncId) (n : Nat) (path : List Nat) (js : List Nat) (j : Nat) (env : Env) (L : LHeap) : R :=
  match P.funcs[f]? with
  | some fn =>
    match fn.body with
    | some c => lloop (lexec P (T.keep f) f fn.ntmps (callee T (lcall P T n)) n (sub c (path ++ [0]))) (T.keep f (firstRegion (sub c (path ++ [0])))) (kont P (T.keep f) f fn.ntmps (callee T (lcall P T n)) n c path js (lret P fn)) j env L
    | none => none
  | none => none
end Go.Rlm
namespace Go.Rlm
/-- The slots that loops keep, looked up: function, first region. -/
def tlook1 : List (Nat × List Nat) → Nat → List Nat
  | [], _ => []
  | (k, l) :: r, q => bif Nat.beq k q then l else tlook1 r q
def tlook : List (Nat × List (Nat × List Nat)) → Nat → Nat → List Nat
  | [], _, _ => []
  | (f, l) :: r, g, q => bif Nat.beq f g then tlook1 l q else tlook r g q
/-- The functions that are not stepped through, looked up. -/
def slook : List (Nat × Spec) → FuncId → Option Spec
  | [], _ => none
  | (f, g) :: r, h => bif Nat.beq f h then some g else slook r h
/-- The functions that are answered where they are called, looked up. -/
def plook : List (Nat × PSpec) → FuncId → Option PSpec
  | [], _ => none
  | (f, g) :: r, h => bif Nat.beq f h then some g else plook r h
/-- A value, and no heap. -/
def ok (v : Value) : R := some (.ret v [])
def ldrop (P : Program) (fn : Func) : LK := fun e env L =>
  match e with
  | .exit _ => none
  | _ => lresults P env L fn.results.toList fun vs =>
    match vs with
    | [v] => ok v
    | vs => ok (.tuple vs.toArray)
noncomputable def lpure (P : Program) (T : Tab) (n : Nat) (f : FuncId) (args : List Value) : R :=
  match P.funcs[f]? with
  | some fn =>
    match fn.body with
    | some c => hif (Nat.ble args.length fn.ntmps && distinct (rids c)) (lexec P (T.keep f) f fn.ntmps (callee T (lcall P T n)) n c (ldrop P fn) (enum args 0) []) none
    | none => none
  | none => none
noncomputable def loopAtD (P : Program) (T : Tab) (f : FuncId) (n : Nat) (path : List Nat) (js : List Nat) (j : Nat) (env : Env) (L : LHeap) : R :=
  match P.funcs[f]? with
  | some fn =>
    match fn.body with
    | some c => lloop (lexec P (T.keep f) f fn.ntmps (callee T (lcall P T n)) n (sub c (path ++ [0]))) (T.keep f (firstRegion (sub c (path ++ [0])))) (kont P (T.keep f) f fn.ntmps (callee T (lcall P T n)) n c path js (ldrop P fn)) j env L
    | none => none
  | none => none
end Go.Rlm
end

section
namespace Go.Rlm
/-- Where a block lies: the model's block, where it begins in it, how many cells that block has, how many cells an element takes. -/
structure Info where
  blk : Nat
  base : Nat
  top : Nat
  esz : Nat
abbrev RMap := Nat → Option Info
def Info.at (i : Info) (a : Addr) : Addr := ⟨i.blk, i.base + a.off, a.spot⟩
def isYield : Fn → Bool
  | .yield _ => true
  | _ => false
mutual
inductive VR (m : RMap) : Value → Value → Prop
  | flat1 {v} (h : flat1 v = true) : VR m v v
  | ptr {a i} (h : m a.block = some i) : VR m (.pointer (some a)) (.pointer (some (i.at a)))
  | slice {a n c i} (h : m a.block = some i) (hc : c < OPEN) : VR m (.slice (some a) n c) (.slice (some (i.at a)) n c)
  | opn {a n i} (h : m a.block = some i) : VR m (.slice (some a) n OPEN) (.slice (some (i.at a)) n ((i.top - a.off) / i.esz))
  | loose {a a' c'} : VR m (.slice (some a) 0 LOOSE) (.slice (some a') 0 c')
  | map {r i} (h : m r = some i) : VR m (.map (some r)) (.map (some i.blk))
  | func {f az as' bs bs'} (hf : isYield f = false) (h1 : VRs m az as') (h2 : VRs m bs bs') : VR m (.func f ⟨az⟩ ⟨bs⟩) (.func f ⟨as'⟩ ⟨bs'⟩)
  | yield {j i} (h : m j = some i) : VR m (.func (.yield j) #[] #[]) (.func (.yield i.blk) #[] #[])
  | iface {t v v'} (h : VR m v v') : VR m (.iface t v) (.iface t v')
  | agg {cs cs'} (h : VRs m cs cs') (ho : ∀ v ∈ cs, one v = true) : VR m (.agg ⟨cs⟩) (.agg ⟨cs'⟩)
  | tuple {cs cs'} (h : VRs m cs cs') : VR m (.tuple ⟨cs⟩) (.tuple ⟨cs'⟩)
inductive VRs (m : RMap) : List Value → List Value → Prop
  | nil : VRs m [] []
  | cons {v v' vs vs'} (h : VR m v v') (hs : VRs m vs vs') : VRs m (v :: vs) (v' :: vs')
end
def MExt (m m' : RMap) : Prop := ∀ r i, m r = some i → m' r = some i
theorem MExt.refl (m : RMap) : MExt m m := fun _ _ h => h
theorem MExt.trans {a b c : RMap} (h : MExt a b) (k : MExt b c) : MExt a c := fun r i x => k r i (h r i x)
mutual
theorem VR.mono {m m' : RMap} (hm : MExt m m') {v v' : Value} (h : VR m v v') : VR m' v v' := by
  cases h with
  | flat1 h => exact .flat1 h
  | ptr h => exact .ptr (hm _ _ h)
  | slice h hc => exact .slice (hm _ _ h) hc
  | opn h => exact .opn (hm _ _ h)
  | loose => exact .loose
  | map h => exact .map (hm _ _ h)
  | func hf h1 h2 => exact .func hf (VRs.mono hm h1) (VRs.mono hm h2)
  | yield h => exact .yield (hm _ _ h)
  | iface h => exact .iface (VR.mono hm h)
  | agg h ho => exact .agg (VRs.mono hm h) ho
  | tuple h => exact .tuple (VRs.mono hm h)
theorem VRs.mono {m m' : RMap} (hm : MExt m m') {v v' : List Value} (h : VRs m v v') : VRs m' v v' := by
  cases h with
  | nil => exact .nil
  | cons h hs => exact .cons (VR.mono hm h) (VRs.mono hm hs)
end
section
variable {m : RMap}
theorem VRs.length {vs vs' : List Value} (h : VRs m vs vs') : vs'.length = vs.length := by
  induction vs generalizing vs' with
  | nil => cases h; rfl
  | cons v vs ih => cases h with | cons h hs => simp [ih hs]
theorem VRs.get {vs vs' : List Value} (h : VRs m vs vs') {j : Nat} {v : Value} (hv : vs[j]? = some v) : ∃ v', vs'[j]? = some v' ∧ VR m v v' := by
  induction vs generalizing vs' j with
  | nil => simp at hv
  | cons x vs ih =>
    cases h with
    | cons h hs =>
      cases j with
      | zero => simp at hv; subst hv; exact ⟨_, by simp, h⟩
      | succ j => simp at hv; simpa using ih hs hv
theorem VRs.of_get {vs : List Value} : ∀ {vs' : List Value}, vs'.length = vs.length → (∀ (j : Nat) (v : Value), vs[j]? = some v → ∃ v', vs'[j]? = some v' ∧ VR m v v') → VRs m vs vs' := by
  induction vs with
  | nil => intro vs' hl _; have : vs' = [] := List.eq_nil_of_length_eq_zero (by simpa using hl); subst this; exact .nil
  | cons v vs ih =>
    intro vs' hl h
    cases vs' with
    | nil => simp at hl
    | cons v' vs' =>
      refine .cons ?_ (ih (by simpa using hl) fun j u hu => ?_)
      · obtain ⟨x, h1, h2⟩ := h 0 v (by simp)
        simp at h1; subst h1; exact h2
      · have := h (j + 1) u (by simpa using hu)
        simpa using this
theorem VRs.append {a a' b b' : List Value} (h : VRs m a a') (k : VRs m b b') : VRs m (a ++ b) (a' ++ b') := by
  induction a generalizing a' with
  | nil => cases h; exact k
  | cons v a ih => cases h with | cons h hs => exact .cons h (ih hs)
theorem VRs.take {a a' : List Value} (n : Nat) (h : VRs m a a') : VRs m (a.take n) (a'.take n) := by
  induction n generalizing a a' with
  | zero => simp; exact .nil
  | succ n ih => cases h with
    | nil => simp; exact .nil
    | cons h hs => simp; exact .cons h (ih hs)
theorem VRs.drop {a a' : List Value} (n : Nat) (h : VRs m a a') : VRs m (a.drop n) (a'.drop n) := by
  induction n generalizing a a' with
  | zero => simpa using h
  | succ n ih => cases h with
    | nil => simp; exact .nil
    | cons h hs => simp; exact ih hs
theorem VRs.flat {vs : List Value} (h : ∀ v ∈ vs, flat1 v = true) : VRs m vs vs := by
  induction vs with
  | nil => exact .nil
  | cons v vs ih => exact .cons (.flat1 (h v (by simp))) (ih fun u hu => h u (by simp [hu]))
theorem VR.one_eq {v v' : Value} (h : VR m v v') : one v' = one v := by cases h <;> rfl
theorem VRs.ones {vs vs' : List Value} (h : VRs m vs vs') (ho : ∀ v ∈ vs, one v = true) : ∀ v ∈ vs', one v = true := by
  induction vs generalizing vs' with
  | nil => cases h; simp
  | cons v vs ih =>
    cases h with
    | cons h hs =>
      intro u hu
      rcases List.mem_cons.1 hu with rfl | hu
      · rw [VR.one_eq h]; exact ho _ (by simp)
      · exact ih hs (fun x hx => ho x (by simp [hx])) u hu
theorem one_of_flat1 {v : Value} (h : Rlm.flat1 v = true) : one v = true := by cases v <;> simp_all [Rlm.flat1, one]
theorem VR.flat {v : Value} (h : Rlm.flat v = true) : VR m v v := by
  cases v <;> first | exact .flat1 h | skip
  case agg cs =>
    have : ∀ v ∈ cs.toList, Rlm.flat1 v = true := List.all_eq_true.1 h
    have e : (Value.agg cs) = .agg ⟨cs.toList⟩ := rfl
    rw [e]
    exact .agg (VRs.flat this) fun v hv => one_of_flat1 (this v hv)
end
section
variable {m : RMap} {v' : Value}
theorem VR.of_int {k : IntKind} {n : Int} (h : VR m (.int k n) v') : v' = .int k n := by cases h; rfl
theorem VR.of_bool {b : Bool} (h : VR m (.bool b) v') : v' = .bool b := by cases h; rfl
theorem VR.of_string {s : ByteArray} (h : VR m (.string s) v') : v' = .string s := by cases h; rfl
theorem VR.of_nilPtr (h : VR m (.pointer none) v') : v' = .pointer none := by cases h; rfl
theorem VR.of_ptr {a : Addr} (h : VR m (.pointer (some a)) v') : ∃ i, m a.block = some i ∧ v' = .pointer (some (i.at a)) := by
  cases h with
  | flat1 h => simp [Rlm.flat1] at h
  | ptr h => exact ⟨_, h, rfl⟩
theorem VR.of_nilSlice {n c : Nat} (h : VR m (.slice none n c) v') : v' = .slice none n c := by cases h; rfl
theorem VR.of_slice {a : Addr} {n c : Nat} (h : VR m (.slice (some a) n c) v') :
    (c < OPEN ∧ ∃ i, m a.block = some i ∧ v' = .slice (some (i.at a)) n c) ∨ (c = OPEN ∧ ∃ i, m a.block = some i ∧ v' = .slice (some (i.at a)) n ((i.top - a.off) / i.esz)) ∨
    (c = LOOSE ∧ n = 0 ∧ ∃ a' c', v' = .slice (some a') 0 c') := by
  cases h with
  | flat1 h => simp [Rlm.flat1] at h
  | slice h hc => exact .inl ⟨hc, _, h, rfl⟩
  | opn h => exact .inr (.inl ⟨rfl, _, h, rfl⟩)
  | loose => exact .inr (.inr ⟨rfl, rfl, _, _, rfl⟩)
theorem VR.of_agg {cs : Array Value} (h : VR m (.agg cs) v') : ∃ cs', v' = .agg cs' ∧ VRs m cs.toList cs'.toList ∧ ∀ v ∈ cs.toList, one v = true := by
  cases h with
  | flat1 h => simp [Rlm.flat1] at h
  | agg h ho => exact ⟨_, rfl, h, ho⟩
theorem VR.of_tuple {cs : Array Value} (h : VR m (.tuple cs) v') : ∃ cs', v' = .tuple cs' ∧ VRs m cs.toList cs'.toList := by
  cases h with
  | flat1 h => simp [Rlm.flat1] at h
  | tuple h => exact ⟨_, rfl, h⟩
theorem VR.of_func {f : FuncId} {a b : Array Value} (h : VR m (.func (.func f) a b) v') : ∃ a' b', v' = .func (.func f) a' b' ∧ VRs m a.toList a'.toList ∧ VRs m b.toList b'.toList := by
  cases h with
  | flat1 h => simp [Rlm.flat1] at h
  | func hf h1 h2 => exact ⟨_, _, rfl, h1, h2⟩
theorem VR.of_yield {j : Nat} {a b : Array Value} (h : VR m (.func (.yield j) a b) v') : ∃ i, m j = some i ∧ v' = .func (.yield i.blk) #[] #[] := by
  cases h with
  | flat1 h => simp [Rlm.flat1] at h
  | func hf h1 h2 => cases hf
  | yield h => exact ⟨_, h, rfl⟩
theorem VR.of_iface {t : TypeId} {v : Value} (h : VR m (.iface t v) v') : ∃ u, v' = .iface t u ∧ VR m v u := by
  cases h with
  | flat1 h => simp [Rlm.flat1] at h
  | iface h => exact ⟨_, rfl, h⟩
theorem VR.undef : VR m (.tuple #[]) undef := VR.tuple (cs := []) (cs' := []) .nil
end
def ER (m : RMap) (env : Env) (tmps : Array Value) : Prop := ∀ t v, look env t = some v → ∃ v', tmps[t]? = some v' ∧ VR m v v'
theorem ER.mono {m m' : RMap} {env : Env} {tmps : Array Value} (h : ER m env tmps) (hm : MExt m m') : ER m' env tmps :=
  fun t v hv => let ⟨v', h1, h2⟩ := h t v hv; ⟨v', h1, h2.mono hm⟩
def own (L : LHeap) (r : Nat) : Prop := ∃ cs e sp, L[r]? = some (.cells cs e false sp)
def live (L : LHeap) (r : Nat) : Prop := ∃ cs e ro sp, L[r]? = some (.cells cs e ro sp)
/-- Blocks of the machine's own that are not cells: the ranges over functions, the maps. -/
def aside : LBlk → Bool
  | .loop _ _ _ _ => true
  | .map _ _ => true
  | _ => false
def asideO : Obj → Bool
  | .loop _ => true
  | .map _ _ => true
  | _ => false
/-- The machine's own blocks: cells that are not only read, and those. -/
def mine (L : LHeap) (r : Nat) : Prop := own L r ∨ ∃ b, aside b = true ∧ L[r]? = some b
theorem own.live {L : LHeap} {r : Nat} (h : own L r) : live L r := let ⟨cs, e, sp, h⟩ := h; ⟨cs, e, false, sp, h⟩
/-- A block's cells az the model has them. -/
structure Row (P : Program) (m : RMap) (w : World) (i : Info) (cs : List Value) (e : TypeId) (ro : Bool) (sp : Nat) : Prop where
  there : ∃ cp e' fz, w.heap[i.blk]? = some (.cells cp e' fz) ∧ (∀ (j : Nat) (v : Value), cs[j]? = some v → ∃ v', cp[i.base + j]? = some v' ∧ VR m v v') ∧
    (ro = false → i.base = 0 ∧ e' = e ∧ ∀ o, o < cp.size → ¬ (fz.1 ≤ o ∧ o < fz.2)) ∧ (sp ≠ 0 → ro = false ∧ i.top = cp.size ∧ i.esz = sp ∧ sp = P.cellsOf e)
  ones : ∀ v ∈ cs, one v = true
def codeOf : LExit → Code
  | .normal => .skip
  | .exit id => .exit id
  | .ret => .ret
def StRel : LSt → Loop → Prop
  | .ready, lp => lp.state = .ready ∧ lp.pending = none
  | .busy, lp => lp.state = .busy
  | .left e, lp => lp.state = .done ∧ lp.pending = some (codeOf e)
structure LoopRel (P : Program) (m : RMap) (f id : Nat) (env : Env) (st : LSt) (lp : Loop) : Prop where
  code : ∃ fn c, P.funcs[f]? = some fn ∧ fn.body = some c ∧ rangeIn id c = some (lp.params, lp.assign, lp.body) ∧ lp.tmps.size = fn.ntmps
  env : ER m env lp.tmps
  st : StRel st lp
/-- A map's entries az the model has them. -/
def MapRel (m : RMap) (es : MEnts) (ms : List MapEntry) : Prop :=
  es.length = ms.length ∧ ∀ (j : Nat) (k v : Value) (b : Nat), es[j]? = some (k, v, b) → ∃ e, ms[j]? = some e ∧ e.key = k ∧ VR m v e.val ∧ e.born = b
theorem MapRel.mono {m m' : RMap} (hm : MExt m m') {es : MEnts} {ms : List MapEntry} (h : MapRel m es ms) : MapRel m' es ms :=
  ⟨h.1, fun j k v b hj => let ⟨e, h1, h2, h3, h4⟩ := h.2 j k v b hj; ⟨e, h1, h2, h3.mono hm, h4⟩⟩
structure Loops (P : Program) (m : RMap) (L : LHeap) (w : World) : Prop where
  row : ∀ (r f id : Nat) (env : Env) (st : LSt), L[r]? = some (.loop f id env st) → ∃ i lp, m r = some i ∧ w.heap[i.blk]? = some (.loop lp) ∧ LoopRel P m f id env st lp
  sep : ∀ (r r' f id : Nat) (env : Env) (st : LSt) (f' id' : Nat) (env' : Env) (st' : LSt) (i i' : Info), L[r]? = some (.loop f id env st) → L[r']? = some (.loop f' id' env' st') → r ≠ r' → m r = some i → m r' = some i' → i.blk ≠ i'.blk
  mrow : ∀ (r : Nat) (es : MEnts) (ck : Nat), L[r]? = some (.map es ck) → ∃ i ms, m r = some i ∧ w.heap[i.blk]? = some (.map ms ck) ∧ MapRel m es ms.toList
  msep : ∀ (r r' : Nat) (es : MEnts) (ck : Nat) (es' : MEnts) (ck' : Nat) (i i' : Info), L[r]? = some (.map es ck) → L[r']? = some (.map es' ck') → r ≠ r' → m r = some i → m r' = some i' → i.blk ≠ i'.blk
theorem Loops.keep {P : Program} {m m' : RMap} {L L' : LHeap} {w w' : World} (h : Loops P m L w) (hm : MExt m m') (hL : ∀ (r : Nat) (b : LBlk), aside b = true → L'[r]? = some b → L[r]? = some b)
    (hw : ∀ (k : Nat) (o : Obj), asideO o = true → w.heap[k]? = some o → w'.heap[k]? = some o) : Loops P m' L' w' := by
  refine ⟨fun r f id env st hr => ?_, fun r r' f id env st f' id' env' st' i i' h1 h2 hne h3 h4 => ?_, fun r es ck hr => ?_, fun r r' es ck es' ck' i i' h1 h2 hne h3 h4 => ?_⟩
  · obtain ⟨i, lp, g1, g2, g3⟩ := h.row r f id env st (hL _ _ rfl hr)
    exact ⟨i, lp, hm _ _ g1, hw _ _ rfl g2, ⟨g3.code, g3.env.mono hm, g3.st⟩⟩
  · obtain ⟨j, _, g1, _⟩ := h.row _ _ _ _ _ (hL _ _ rfl h1)
    obtain ⟨j', _, k1, _⟩ := h.row _ _ _ _ _ (hL _ _ rfl h2)
    have e1 := hm _ _ g1
    have e2 := hm _ _ k1
    rw [h3] at e1; injection e1 with e1; subst e1
    rw [h4] at e2; injection e2 with e2; subst e2
    exact h.sep _ _ _ _ _ _ _ _ _ _ _ _ (hL _ _ rfl h1) (hL _ _ rfl h2) hne g1 k1
  · obtain ⟨i, ms, g1, g2, g3⟩ := h.mrow r es ck (hL _ _ rfl hr)
    exact ⟨i, ms, hm _ _ g1, hw _ _ rfl g2, g3.mono hm⟩
  · obtain ⟨j, _, g1, _⟩ := h.mrow _ _ _ (hL _ _ rfl h1)
    obtain ⟨j', _, k1, _⟩ := h.mrow _ _ _ (hL _ _ rfl h2)
    have e1 := hm _ _ g1
    have e2 := hm _ _ k1
    rw [h3] at e1; injection e1 with e1; subst e1
    rw [h4] at e2; injection e2 with e2; subst e2
    exact h.msep _ _ _ _ _ _ _ _ (hL _ _ rfl h1) (hL _ _ rfl h2) hne g1 k1
structure Rep (P : Program) (m : RMap) (L : LHeap) (w : World) : Prop where
  fresh : ∀ r, L.length ≤ r → m r = none
  row : ∀ r cs e ro sp, L[r]? = some (.cells cs e ro sp) → ∃ i, m r = some i ∧ Row P m w i cs e ro sp
  sep : ∀ r r' i i', own L r → live L r' → r ≠ r' → m r = some i → m r' = some i' → i.blk ≠ i'.blk
  loops : Loops P m L w
/-- What a run may have done: the blocks that were there and not the machine's own are az they were. -/
structure Tr (m : RMap) (L : LHeap) (w : World) (m' : RMap) (L' : LHeap) (w' : World) : Prop where
  ext : MExt m m'
  len : L.length ≤ L'.length
  size : w.heap.size ≤ w'.heap.size
  os : w'.os = w.os
  tape : w'.tape = w.tape
  output : w'.output = w.output
  foot : ∀ r i, mine L' r → m' r = some i → (∃ r0 i0, mine L r0 ∧ m r0 = some i0 ∧ i0.blk = i.blk) ∨ w.heap.size ≤ i.blk
  frame : ∀ b, b < w.heap.size → (∀ r i, mine L r → m r = some i → i.blk ≠ b) → w'.heap[b]? = w.heap[b]?
theorem Tr.refl (m : RMap) (L : LHeap) (w : World) : Tr m L w m L w :=
  ⟨.refl m, Nat.le_refl _, Nat.le_refl _, rfl, rfl, rfl, fun r i ho hm => .inl ⟨r, i, ho, hm, rfl⟩, fun _ _ _ => rfl⟩
/-- What a step may have done that leaves the ranges over functions alone. -/
theorem Tr.of {P : Program} {m : RMap} {L : LHeap} {w : World} {m' : RMap} {L' : LHeap} {w' : World} (hr : Rep P m L w) (ext : MExt m m') (len : L.length ≤ L'.length) (size : w.heap.size ≤ w'.heap.size)
    (os : w'.os = w.os) (tape : w'.tape = w.tape) (output : w'.output = w.output)
    (foot : ∀ r i, own L' r → m' r = some i → (∃ r0 i0, own L r0 ∧ m r0 = some i0 ∧ i0.blk = i.blk) ∨ w.heap.size ≤ i.blk)
    (frame : ∀ b, b < w.heap.size → (∀ r i, own L r → m r = some i → i.blk ≠ b) → w'.heap[b]? = w.heap[b]?)
    (loops : ∀ (r : Nat) (b : LBlk), aside b = true → L'[r]? = some b → L[r]? = some b) : Tr m L w m' L' w' := by
  refine ⟨ext, len, size, os, tape, output, fun r i ho hm => ?_, fun b hb hn => frame b hb fun r i ho => hn r i (.inl ho)⟩
  rcases ho with ho | ⟨b, hb, ho⟩
  · rcases foot r i ho hm with ⟨r0, i0, h1, h2⟩ | h
    · exact .inl ⟨r0, i0, .inl h1, h2⟩
    · exact .inr h
  · have ho' := loops _ _ hb ho
    have h1 : ∃ i0, m r = some i0 := by
      cases b with
      | cells _ _ _ _ => cases hb
      | dead => cases hb
      | loop f id env st => obtain ⟨i0, _, h1, _⟩ := hr.loops.row _ _ _ _ _ ho'; exact ⟨i0, h1⟩
      | map es ck => obtain ⟨i0, _, h1, _⟩ := hr.loops.mrow _ _ _ ho'; exact ⟨i0, h1⟩
    obtain ⟨i0, h1⟩ := h1
    have h2 := ext _ _ h1
    rw [hm] at h2; injection h2 with h2; subst h2
    exact .inl ⟨r, i, .inr ⟨b, hb, ho'⟩, h1, rfl⟩
theorem Tr.trans {m L w m1 L1 w1 m2 L2 w2} (h : Tr m L w m1 L1 w1) (k : Tr m1 L1 w1 m2 L2 w2) : Tr m L w m2 L2 w2 := by
  refine ⟨h.ext.trans k.ext, Nat.le_trans h.len k.len, Nat.le_trans h.size k.size, k.os.trans h.os, k.tape.trans h.tape, k.output.trans h.output, fun r i ho hm => ?_, fun b hb hn => ?_⟩
  · rcases k.foot r i ho hm with ⟨r0, i0, h0, h1, h2⟩ | h0
    · rcases h.foot r0 i0 h0 h1 with ⟨q, j, h3, h4, h5⟩ | h3
      · exact .inl ⟨q, j, h3, h4, h5.trans h2⟩
      · exact .inr (h2 ▸ h3)
    · exact .inr (Nat.le_trans h.size h0)
  · refine (k.frame b (Nat.lt_of_lt_of_le hb h.size) fun r i ho hm e => ?_).trans (h.frame b hb hn)
    rcases h.foot r i ho hm with ⟨q, j, h3, h4, h5⟩ | h3
    · exact hn q j h3 h4 (h5.trans e)
    · omega
theorem Tr.drew {m L w m' L' w'} (h : Tr m L w m' L' w') : Tr m L w m' L' { w' with drawn := w'.drawn + 1 } :=
  ⟨h.ext, h.len, h.size, h.os, h.tape, h.output, h.foot, h.frame⟩
theorem Rep.drew {P : Program} {m L w} (h : Rep P m L w) (n : Nat) : Rep P m L { w with drawn := n } :=
  ⟨h.fresh, fun r cs e ro sp hr => let ⟨i, h1, h2⟩ := h.row r cs e ro sp hr; ⟨i, h1, ⟨h2.there, h2.ones⟩⟩, h.sep, h.loops.keep (.refl m) (fun _ _ _ h => h) (fun _ _ _ h => h)⟩
theorem at_add (i : Info) (a : Addr) (n : Nat) : (i.at a).add n = i.at (a.add n) := by
  unfold Addr.add Info.at
  split
  · rfl
  · simp [Nat.add_assoc]
theorem add_block (a : Addr) (n : Nat) : (a.add n).block = a.block := by unfold Addr.add; split <;> rfl
theorem cell_spot {L : LHeap} {a : Addr} {v : Value} (h : cell L a = some v) : a.spot = none := by
  unfold cell at h; split at h <;> simp_all
theorem Rep.cell {P : Program} {m L w} (h : Rep P m L w) {a : Addr} {v : Value} (hc : cell L a = some v) :
    ∃ i v', m a.block = some i ∧ w.cell? (i.at a) = some v' ∧ VR m v v' ∧ one v = true := by
  have hs := cell_spot hc
  unfold Rlm.cell at hc
  rw [hs] at hc
  simp only at hc
  split at hc
  case h_2 => cases hc
  rename_i cs e ro sp hr
  obtain ⟨i, hm, hrow⟩ := h.row _ _ _ _ _ hr
  obtain ⟨cp, e', fz, hh, hv, _⟩ := hrow.there
  obtain ⟨v', h1, h2⟩ := hv _ _ hc
  refine ⟨i, v', hm, ?_, h2, hrow.ones v (List.mem_of_getElem? hc)⟩
  simp [World.cell?, Info.at, hh, hs, h1]
/-- cells one by one -/
theorem cellsAt_cell {L : LHeap} {a : Addr} {n : Nat} {cs : List Value} (h : cellsAt L a n = some cs) :
    cs.length = n ∧ ∀ (j : Nat) (v : Value), cs[j]? = some v → cell L (addrN a j) = some v := by
  unfold cellsAt at h
  split at h
  · cases h
  split at h
  case h_2 => cases h
  rename_i hs _ xs e ro sp hr
  simp only [hif_eq, cond_eq_ite] at h
  split at h
  case isFalse => cases h
  rename_i hle
  simp only [Nat.ble_eq] at hle
  injection h with h
  subst h
  refine ⟨by simp; omega, fun j v hv => ?_⟩
  have hj : j < n := by
    rcases Nat.lt_or_ge j n with h | h
    · exact h
    · rw [List.getElem?_take, if_neg (by omega)] at hv; cases hv
  rw [List.getElem?_take, if_pos hj, List.getElem?_drop] at hv
  simp [cell, addrN, hr, hv]
theorem cellsAt_spot {L : LHeap} {a : Addr} {n : Nat} {cs : List Value} (h : cellsAt L a n = some cs) : a.spot = none := by
  unfold cellsAt at h; split at h <;> simp_all
theorem addrN_add {a : Addr} (h : a.spot = none) (n : Nat) : a.add n = addrN a n := by
  unfold Addr.add addrN
  split
  · rename_i hn; subst hn; cases a; simp_all
  · rfl
/-- Many cells. -/
theorem Rep.cells {P : Program} {m L w} (h : Rep P m L w) {a : Addr} {i : Info} (hi : m a.block = some i) {cs : List Value}
    (hc : ∀ (j : Nat) (v : Value), cs[j]? = some v → Rlm.cell L (a.add j) = some v) :
    ∃ cs', (loadCells (i.at a) cs.length).run P w = .ok ⟨cs'⟩ w ∧ VRs m cs cs' ∧ ∀ v ∈ cs, one v = true := by
  have key : ∀ j (hj : j < cs.length), ∃ v', w.cell? ((i.at a).add j) = some v' ∧ VR m cs[j] v' ∧ one cs[j] = true := fun j hj => by
    obtain ⟨i', v', h1, h2, h3, h4⟩ := h.cell (hc j cs[j] (by simp [hj]))
    rw [add_block, hi] at h1
    injection h1 with h1; subst h1
    exact ⟨v', by rw [at_add]; exact h2, h3, h4⟩
  let cs' : List Value := (List.range cs.length).map fun j => (w.cell? ((i.at a).add j)).getD undef
  have hget : ∀ (j : Nat) (v : Value), cs'[j]? = some v → w.cell? ((i.at a).add j) = some v := fun j v hv => by
    have hj : j < cs.length := by
      have := (List.getElem?_eq_some_iff.1 hv).1
      simpa [cs'] using this
    obtain ⟨v', h1, _⟩ := key j hj
    simp [cs', hj, h1] at hv
    rw [h1, hv]
  have hlen : cs'.length = cs.length := by simp [cs']
  refine ⟨cs', ?_, ?_, ?_⟩
  · have := run_loadCells_list (P := P) (w := w) (i.at a) cs' hget
    rw [hlen] at this
    exact this
  · refine VRs.of_get hlen fun j v hv => ?_
    have hj := (List.getElem?_eq_some_iff.1 hv).1
    have hv2 := (List.getElem?_eq_some_iff.1 hv).2
    obtain ⟨v', h1, h2, _⟩ := key j hj
    exact ⟨v', by simp [cs', hj, h1], hv2 ▸ h2⟩
  · intro v hv
    obtain ⟨j, hj, e⟩ := List.getElem_of_mem hv
    obtain ⟨_, _, _, h4⟩ := key j hj
    exact e ▸ h4
end Go.Rlm
end

section
namespace Go.Rlm
theorem one_eq_oneCell (v : Value) : v.oneCell' = one v := by cases v <;> rfl
theorem setAll_length (vs : List Value) : ∀ (cs : List Value) (o : Nat), (setAll cs o vs).length = cs.length := by
  induction vs with
  | nil => intro cs o; rfl
  | cons v vs ih => intro cs o; simp [setAll, ih]
theorem setAll_get (vs : List Value) : ∀ (cs : List Value) (o j : Nat), o + vs.length ≤ cs.length →
    (setAll cs o vs)[j]? = if o ≤ j ∧ j < o + vs.length then vs[j - o]? else cs[j]? := by
  induction vs with
  | nil => intro cs o j _; rw [setAll, if_neg (by simp only [List.length_nil]; omega)]
  | cons v vs ih =>
    intro cs o j h
    simp only [List.length_cons] at h
    rw [setAll, ih (cs.set o v) (o + 1) j (by simp; omega)]
    by_cases h1 : o + 1 ≤ j ∧ j < o + 1 + vs.length
    · rw [if_pos h1, if_pos (by simp; omega), show j - o = (j - (o + 1)) + 1 by omega]
      simp
    · rw [if_neg h1]
      by_cases h2 : j = o
      · subst h2
        rw [List.getElem?_set_self (by omega), if_pos (by simp)]
        simp
      · rw [if_neg (by simp; omega), List.getElem?_set_ne (by omega)]
/-- Cells written one behind the other into a block. -/
theorem run_stores (P : Program) (b : Nat) (e : TypeId) (fz : Nat × Nat) (vs : List Value) : ∀ (cp : Array Value) (o k : Nat) (w : World),
    w.heap[b]? = some (.cells cp e fz) → o + k + vs.length ≤ cp.size → (∀ j, j < cp.size → ¬ (fz.1 ≤ j ∧ j < fz.2)) → (∀ v ∈ vs, one v = true) →
    ∃ w', (storeCells ⟨b, o, none⟩ vs k).run P w = .ok () w' ∧ w'.heap = w.heap.setIfInBounds b (.cells ⟨setAll cp.toList (o + k) vs⟩ e fz) ∧
      w'.os = w.os ∧ w'.tape = w.tape ∧ w'.output = w.output := by
  induction vs with
  | nil =>
    intro cp o k w hh _ _ _
    refine ⟨w, rfl, ?_, rfl, rfl, rfl⟩
    apply Array.ext_getElem?
    intro j
    rw [Array.getElem?_setIfInBounds]
    split
    · rename_i hj
      subst hj
      rw [if_pos (Array.getElem?_eq_some_iff.1 hh).1, hh]
      rfl
    · rfl
  | cons v vs ih =>
    intro cp o k w hh hle hfz ho
    simp only [List.length_cons] at hle
    have hlt : o + k < cp.size := by omega
    have hadd : (Addr.mk b o none).add k = ⟨b, o + k, none⟩ := by unfold Addr.add; split <;> simp_all
    have hc : w.cell? ⟨b, o + k, none⟩ = some cp[o + k] := by simp [World.cell?, hh, hlt]
    have hf : w.frozen? ⟨b, o + k, none⟩ = false := by
      have := hfz (o + k) hlt
      simp [World.frozen?, hh]
      intro h1
      exact Nat.le_of_not_lt fun h2 => this ⟨h1, h2⟩
    have h1 : (w.setCell ⟨b, o + k, none⟩ v).heap[b]? = some (.cells ⟨cp.toList.set (o + k) v⟩ e fz) := by
      have hb := (Array.getElem?_eq_some_iff.1 hh)
      simp only [World.setCell]
      rw [Array.getElem?_modify, if_pos rfl, hh]
      simp only [Option.map_some, Option.isSome_none, Bool.false_eq_true, if_false, Array.setIfInBounds]
      simp [hlt, Array.set]
    obtain ⟨w', h2, h3, h4, h5, h6⟩ := ih ⟨cp.toList.set (o + k) v⟩ o (k + 1) (w.setCell ⟨b, o + k, none⟩ v) h1 (by simp; omega) (by simpa using hfz) (fun u hu => ho u (by simp [hu]))
    refine ⟨w', ?_, ?_, h4.trans rfl, h5.trans rfl, h6.trans rfl⟩
    · simp only [storeCells, Sem.run_bind, hadd]
      rw [run_store P w ⟨b, o + k, none⟩ v .plain (by rw [one_eq_oneCell]; exact ho v (by simp))]
      simp only [hc, hf, Bool.false_eq_true, if_false, Result.andThen_ok]
      exact h2
    · rw [h3]
      simp only [setAll, ← Nat.add_assoc]
      apply Array.ext_getElem?
      intro j
      simp only [Array.getElem?_setIfInBounds, World.setCell, Array.size_modify, Array.getElem?_modify]
      by_cases hj : b = j
      · simp [hj]
      · simp [hj]
theorem Rep.stores {P : Program} {m : RMap} {L L' : LHeap} {w : World} (h : Rep P m L w) {a : Addr} {vs vs' : List Value} (hs : stores L a vs = some L')
    (hv : VRs m vs vs') (ho : ∀ v ∈ vs, one v = true) {i : Info} (hi : m a.block = some i) :
    ∃ w', (storeCells (i.at a) vs').run P w = .ok () w' ∧ Rep P m L' w' ∧ Tr m L w m L' w' := by
  unfold Rlm.stores at hs
  split at hs
  · cases hs
  rename_i hspot
  split at hs
  case h_2 => cases hs
  rename_i cs e sp hr
  simp only [hif_eq, cond_eq_ite] at hs
  split at hs
  case isFalse => cases hs
  rename_i hle
  simp only [Nat.ble_eq] at hle
  injection hs with hs
  subst hs
  obtain ⟨i', hm, hrow⟩ := h.row _ _ _ _ _ hr
  rw [hi] at hm; injection hm with hm; subst hm
  obtain ⟨cp, e', fz, hh, hcell, hro, hsp⟩ := hrow.there
  obtain ⟨hbase, rfl, hfz⟩ := hro rfl
  have hlt : a.block < L.length := (List.getElem?_eq_some_iff.1 hr).1
  have hcs : cs.length ≤ cp.size := by
    rcases Nat.eq_zero_or_pos cs.length with h0 | h0
    · omega
    · obtain ⟨v', h1, _⟩ := hcell (cs.length - 1) cs[cs.length - 1] (by simp)
      have := (Array.getElem?_eq_some_iff.1 h1).1
      omega
  have hlen := hv.length
  have hat : i.at a = ⟨i.blk, a.off, none⟩ := by simp [Info.at, hbase, hspot]
  obtain ⟨w', h1, h2, h3, h4, h5⟩ := run_stores P i.blk e' fz vs' cp a.off 0 w hh (by omega) hfz (hv.ones ho)
  have hnew : w'.heap[i.blk]? = some (.cells ⟨setAll cp.toList a.off vs'⟩ e' fz) := by
    rw [h2, Array.getElem?_setIfInBounds, if_pos rfl, if_pos (Array.getElem?_eq_some_iff.1 hh).1]; rfl
  have hold : ∀ b, b ≠ i.blk → w'.heap[b]? = w.heap[b]? := fun b hb => by
    rw [h2, Array.getElem?_setIfInBounds, if_neg (fun e => hb e.symm)]
  have hsize : w'.heap.size = w.heap.size := by rw [h2]; simp
  rw [hat]
  have hloop : ∀ (r : Nat) (b : LBlk), aside b = true → (L.set a.block (LBlk.cells (setAll cs a.off vs) e' false sp))[r]? = some b → L[r]? = some b := fun r b hab hq => by
    by_cases hrr : a.block = r
    · subst hrr; rw [List.getElem?_set_self hlt] at hq; injection hq with hq; subst hq; cases hab
    · rw [List.getElem?_set_ne hrr] at hq; exact hq
  refine ⟨w', h1, ⟨fun r hr => h.fresh r (by simpa using hr), fun r ds e2 ro2 sp2 hr2 => ?_, fun r r' j j' h6 h7 h8 h9 h10 => ?_, h.loops.keep (.refl m) hloop fun b lp hab hb => ?_⟩, ?_⟩
  · by_cases hrr : a.block = r
    · subst hrr
      rw [List.getElem?_set_self hlt] at hr2
      injection hr2 with hr2; injection hr2 with e1 e2 e3 e4
      subst e1; subst e2; subst e3; subst e4
      refine ⟨i, hi, ⟨⟨_, _, fz, hnew, ?_, fun _ => ⟨hbase, rfl, ?_⟩, fun hne => ?_⟩, ?_⟩⟩
      · intro j v hv2
        rw [setAll_get vs cs a.off j hle] at hv2
        simp only [List.getElem?_toArray, hbase, Nat.zero_add]
        rw [setAll_get vs' cp.toList a.off j (by simp; omega)]
        rw [hlen]
        split at hv2
        · rename_i hj; rw [if_pos hj]; exact hv.get hv2
        · rename_i hj; rw [if_neg hj]
          obtain ⟨v', h11, h12⟩ := hcell j v hv2
          exact ⟨v', by simpa [hbase] using h11, h12⟩
      · intro o ho2
        simp [setAll_length] at ho2
        exact hfz o ho2
      · obtain ⟨_, h11, h12, h13⟩ := hsp hne
        exact ⟨rfl, by rw [h11]; simp [setAll_length], h12, h13⟩
      · intro v hv2
        obtain ⟨j, hj⟩ := List.mem_iff_getElem?.1 hv2
        rw [setAll_get vs cs a.off j hle] at hj
        split at hj
        · exact ho v (List.mem_of_getElem? hj)
        · exact hrow.ones v (List.mem_of_getElem? hj)
    · rw [List.getElem?_set_ne hrr] at hr2
      obtain ⟨j, h6, h7⟩ := h.row _ _ _ _ _ hr2
      have hne : j.blk ≠ i.blk := (h.sep a.block r i j ⟨cs, e', sp, hr⟩ ⟨ds, e2, ro2, sp2, hr2⟩ hrr hi h6).symm
      refine ⟨j, h6, ⟨?_, h7.ones⟩⟩
      obtain ⟨cp2, e3, fz2, h8, h9⟩ := h7.there
      exact ⟨cp2, e3, fz2, by rw [hold _ hne]; exact h8, h9⟩
  · have o1 : own L r := by
      by_cases hrr : a.block = r
      · subst hrr; exact ⟨cs, e', sp, hr⟩
      · obtain ⟨c1, c2, c3, c4⟩ := h6
        rw [List.getElem?_set_ne hrr] at c4
        exact ⟨c1, c2, c3, c4⟩
    have o2 : live L r' := by
      by_cases hrr : a.block = r'
      · subst hrr; exact ⟨cs, e', false, sp, hr⟩
      · obtain ⟨c1, c2, c3, c4, c5⟩ := h7
        rw [List.getElem?_set_ne hrr] at c5
        exact ⟨c1, c2, c3, c4, c5⟩
    exact h.sep r r' j j' o1 o2 h8 h9 h10
  · rw [hold b fun e => by rw [e, hh] at hb; injection hb with hb; subst hb; cases hab]; exact hb
  · refine .of h (.refl m) (by simp) (by omega) h3 h4 h5 (fun r j h6 h7 => .inl ⟨r, j, ?_, h7, rfl⟩) (fun b _ hb2 => hold b fun e => hb2 a.block i ⟨cs, e', sp, hr⟩ hi e.symm) hloop
    by_cases hrr : a.block = r
    · subst hrr; exact ⟨cs, e', sp, hr⟩
    · obtain ⟨c1, c2, c3, c4⟩ := h6
      rw [List.getElem?_set_ne hrr] at c4
      exact ⟨c1, c2, c3, c4⟩
def ins (m : RMap) (r : Nat) (i : Info) : RMap := fun q => if q = r then some i else m q
theorem MExt.ins {m : RMap} {r : Nat} (i : Info) (h : m r = none) : MExt m (ins m r i) := by
  intro q j hq
  unfold Rlm.ins
  split
  · rename_i e; subst e; rw [h] at hq; cases hq
  · exact hq
theorem Rep.push {P : Program} {m : RMap} {L : LHeap} {w w' : World} (h : Rep P m L w) {cs cs' : List Value} {e : TypeId} (sp top : Nat) {fz : Nat × Nat} {extra : List Value}
    (hw : w'.heap = w.heap.push (.cells ⟨cs' ++ extra⟩ e fz)) (hfz : ∀ o, o < cs'.length + extra.length → ¬ (fz.1 ≤ o ∧ o < fz.2))
    (hos : w'.os = w.os) (ht : w'.tape = w.tape) (hout : w'.output = w.output)
    (hv : VRs m cs cs') (ho : ∀ v ∈ cs, one v = true) (hsp : sp ≠ 0 → top = cs'.length + extra.length ∧ sp = P.cellsOf e) :
    Rep P (ins m L.length ⟨w.heap.size, 0, top, sp⟩) (L ++ [.cells cs e false sp]) w' ∧ Tr m L w (ins m L.length ⟨w.heap.size, 0, top, sp⟩) (L ++ [.cells cs e false sp]) w' := by
  have hext := MExt.ins (m := m) (r := L.length) ⟨w.heap.size, 0, top, sp⟩ (h.fresh _ (Nat.le_refl _))
  have hnew : w'.heap[w.heap.size]? = some (.cells ⟨cs' ++ extra⟩ e fz) := by rw [hw]; simp
  have hold : ∀ b, b < w.heap.size → w'.heap[b]? = w.heap[b]? := fun b hb => by rw [hw, Array.getElem?_push, if_neg (by omega)]
  have hblk : ∀ r i cs e ro sp, L[r]? = some (.cells cs e ro sp) → m r = some i → i.blk < w.heap.size := fun r i cs e ro sp hr hm => by
    obtain ⟨j, h1, h2⟩ := h.row _ _ _ _ _ hr
    rw [hm] at h1; injection h1 with h1; subst h1
    obtain ⟨_, _, _, h3, _⟩ := h2.there
    exact (Array.getElem?_eq_some_iff.1 h3).1
  have hins : ∀ r i, r < L.length → ins m L.length ⟨w.heap.size, 0, top, sp⟩ r = some i → m r = some i := fun r i hr hm => by
    unfold Rlm.ins at hm
    rw [if_neg (by omega)] at hm
    exact hm
  have hinsL : ∀ i, ins m L.length ⟨w.heap.size, 0, top, sp⟩ L.length = some i → i = ⟨w.heap.size, 0, top, sp⟩ := fun i hm => by
    unfold Rlm.ins at hm
    rw [if_pos rfl] at hm
    injection hm with hm
    exact hm.symm
  have hget : ∀ r b, (L ++ [LBlk.cells cs e false sp])[r]? = some b → (r < L.length ∧ L[r]? = some b) ∨ (r = L.length ∧ b = .cells cs e false sp) := fun r b hr => by
    rcases Nat.lt_trichotomy r L.length with h1 | h1 | h1
    · rw [List.getElem?_append_left h1] at hr; exact .inl ⟨h1, hr⟩
    · subst h1; rw [List.getElem?_append_right (Nat.le_refl _)] at hr; simp at hr; exact .inr ⟨rfl, hr.symm⟩
    · rw [List.getElem?_eq_none (by simp; omega)] at hr; cases hr
  have hloop : ∀ (r : Nat) (b : LBlk), aside b = true → (L ++ [LBlk.cells cs e false sp])[r]? = some b → L[r]? = some b := fun r b hab hq => by
    rcases hget _ _ hq with ⟨_, h⟩ | ⟨_, h⟩
    · exact h
    · subst h; cases hab
  refine ⟨⟨fun r hr => ?_, fun r ds e2 ro2 sp2 hr2 => ?_, fun r r' j j' h6 h7 h8 h9 h10 => ?_, h.loops.keep hext hloop fun b lp _ hb => by rw [hold b (Array.getElem?_eq_some_iff.1 hb).1]; exact hb⟩,
    .of h hext (by simp) (by rw [hw]; simp) hos ht hout (fun r j h6 h7 => ?_) (fun b hb _ => hold b hb) hloop⟩
  · unfold Rlm.ins
    simp at hr
    rw [if_neg (by omega)]
    exact h.fresh r (by omega)
  · rcases hget _ _ hr2 with ⟨h1, h2⟩ | ⟨h1, h2⟩
    · obtain ⟨j, h3, h4⟩ := h.row _ _ _ _ _ h2
      refine ⟨j, hext _ _ h3, ⟨?_, h4.ones⟩⟩
      obtain ⟨cp2, e3, fz2, h8, h9, h10⟩ := h4.there
      refine ⟨cp2, e3, fz2, by rw [hold _ (hblk _ _ _ _ _ _ h2 h3)]; exact h8, fun k v hk => ?_, h10⟩
      obtain ⟨v', h11, h12⟩ := h9 k v hk
      exact ⟨v', h11, h12.mono hext⟩
    · subst h1
      injection h2 with e1 e2 e3 e4
      subst e1; subst e2; subst e3; subst e4
      refine ⟨_, by unfold Rlm.ins; rw [if_pos rfl], ⟨⟨_, _, _, hnew, fun j v hj => ?_, fun _ => ⟨rfl, rfl, by simpa using hfz⟩, fun hne => ?_⟩, ho⟩⟩
      · obtain ⟨v', h3, h4⟩ := hv.get hj
        have hjl := (List.getElem?_eq_some_iff.1 h3).1
        exact ⟨v', by simp only [Nat.zero_add, List.getElem?_toArray]; rw [List.getElem?_append_left hjl]; exact h3, h4.mono hext⟩
      · obtain ⟨h3, h4⟩ := hsp hne
        exact ⟨rfl, by simpa using h3, rfl, h4⟩
  · obtain ⟨c1, c2, c3, c4⟩ := h6
    obtain ⟨d1, d2, d3, d4, d5⟩ := h7
    rcases hget _ _ c4 with ⟨g1, g2⟩ | ⟨g1, g2⟩ <;> rcases hget _ _ d5 with ⟨g3, g4⟩ | ⟨g3, g4⟩
    · exact h.sep r r' j j' ⟨_, _, _, g2⟩ ⟨_, _, _, _, g4⟩ h8 (hins _ _ g1 h9) (hins _ _ g3 h10)
    · subst g3
      have := hblk _ _ _ _ _ _ g2 (hins _ _ g1 h9)
      rw [hinsL _ h10]
      simp only
      omega
    · subst g1
      have := hblk _ _ _ _ _ _ g4 (hins _ _ g3 h10)
      rw [hinsL _ h9]
      simp only
      omega
    · omega
  · obtain ⟨c1, c2, c3, c4⟩ := h6
    rcases hget _ _ c4 with ⟨g1, g2⟩ | ⟨g1, g2⟩
    · exact .inl ⟨r, j, ⟨_, _, _, g2⟩, hins _ _ g1 h7, rfl⟩
    · subst g1
      rw [hinsL _ h7]
      exact .inr (Nat.le_refl _)
end Go.Rlm
end

section
namespace Go.Rlm
theorem obind_iff {α : Type} {x : Option α} {f : α → R} {r : LR} : obind x f = some r ↔ ∃ a, x = some a ∧ f a = some r := by
  cases x <;> simp [obind]
theorem when_iff {b : Bool} {x : R} {r : LR} : when b x = some r ↔ b = true ∧ x = some r := by cases b <;> simp [when]
theorem cond_iff {b : Bool} {x : R} {r : LR} : hif b x none = some r ↔ b = true ∧ x = some r := by cases b <;> simp
theorem lif_iff {b : Bool} {x y : R} {r : LR} : lif b x y = some r ↔ (b = true ∧ x = some r) ∨ (b = false ∧ y = some r) := by cases b <;> simp [lif]
def evv (env : Env) : Operand → Option Value
  | .tmp t => look env t
  | .const v => bif flat v then some v else none
  | .global _ => none
  | .func f => some (.func (.func f) #[] #[])
theorem ev_eq (env : Env) (x : Operand) (K : Value → R) : ev env x K = obind (evv env x) K := by
  cases x with
  | tmp t => simp only [ev, evv]; cases look env t <;> rfl
  | const v => simp only [ev, evv]; cases flat v <;> rfl
  | global g => rfl
  | func f => rfl
def evvs (env : Env) : List Operand → Option (List Value)
  | [] => some []
  | x :: xs =>
    match evv env x, evvs env xs with
    | some v, some vs => some (v :: vs)
    | _, _ => none
theorem evs_eq (env : Env) : ∀ (xs : List Operand) (K : List Value → R), evs env xs K = obind (evvs env xs) K
  | [], K => rfl
  | x :: xs, K => by
    simp only [evs, ev_eq, evvs, evs_eq env xs]
    cases evv env x with
    | none => rfl
    | some v => cases evvs env xs <;> rfl
/-- The machine's temporaries and the model's. -/
theorem ER.eval {m : RMap} {env : Env} {a : Act} (h : ER m env a.tmps) {x : Operand} {v : Value} (hv : evv env x = some v) : VR m v (a.eval x) := by
  cases x with
  | tmp t =>
    obtain ⟨v', h1, h2⟩ := h t v hv
    simpa [Act.eval, h1] using h2
  | const u =>
    simp only [evv] at hv
    cases hf : flat u with
    | false => rw [hf] at hv; cases hv
    | true =>
      rw [hf] at hv
      injection hv with hv
      subst hv
      exact VR.flat hf
  | global g => cases hv
  | func f => injection hv with hv; subst hv; exact .func rfl .nil .nil
theorem ER.evals {m : RMap} {env : Env} {a : Act} (h : ER m env a.tmps) : ∀ {xs : List Operand} {vs : List Value}, evvs env xs = some vs → VRs m vs (xs.map a.eval)
  | [], vs, hv => by injection hv with hv; subst hv; exact .nil
  | x :: xs, vs, hv => by
    simp only [evvs] at hv
    split at hv
    · rename_i v us h1 h2
      injection hv with hv
      subst hv
      exact .cons (h.eval h1) (h.evals h2)
    · cases hv
/-- An operation's answer, and the world. -/
def Gives (P : Program) (s : Sem Next) (w : World) (v' : Value) (w' : World) : Prop :=
  s.run P w = .ok (.value v') w' ∨ (s.run P w = .ok .skip w' ∧ v' = undef)
/-- What an operator on two values comes to. -/
def BinOk (P : Program) (op : BinOp) (t : TypeId) (x y : Value) (K : Value → R) (r : LR) : Prop :=
  ∃ v, K v = some r ∧ (∀ K2, lbin P op t x y K2 = K2 v) ∧ ∀ (m : RMap) (x' y' : Value) (a b : Operand) (w : World), VR m x x' → VR m y y' →
      (do eqGuard op t a b x' y'; binOp op t x' y').run P w = .ok v w ∧ flat1 v = true
theorem BinOk.ints {P : Program} {op : BinOp} {t : TypeId} {k k' : IntKind} {a b : Int} {K : Value → R} {r : LR} (v : Value) (h1 : K v = some r) (h2 : ∀ K2, lbin P op t (.int k a) (.int k' b) K2 = K2 v)
    (h3 : ∀ (a' b' : Operand) w, (do eqGuard op t a' b' (.int k a) (.int k' b); binOp op t (.int k a) (.int k' b)).run P w = .ok v w ∧ flat1 v = true) : BinOk P op t (.int k a) (.int k' b) K r :=
  ⟨v, h1, h2, fun m x' y' a' b' w hx hy => by rw [hx.of_int, hy.of_int]; exact h3 a' b' w⟩
theorem BinOk.strs {P : Program} {op : BinOp} {t : TypeId} {a b : ByteArray} {K : Value → R} {r : LR} (v : Value) (h1 : K v = some r) (h2 : ∀ K2, lbin P op t (.string a) (.string b) K2 = K2 v)
    (h3 : ∀ (a' b' : Operand) w, (do eqGuard op t a' b' (.string a) (.string b); binOp op t (.string a) (.string b)).run P w = .ok v w ∧ flat1 v = true) : BinOk P op t (.string a) (.string b) K r :=
  ⟨v, h1, h2, fun m x' y' a' b' w hx hy => by rw [hx.of_string, hy.of_string]; exact h3 a' b' w⟩
theorem BinOk.bools {P : Program} {op : BinOp} {t : TypeId} {a b : Bool} {K : Value → R} {r : LR} (v : Value) (h1 : K v = some r) (h2 : ∀ K2, lbin P op t (.bool a) (.bool b) K2 = K2 v)
    (h3 : ∀ (a' b' : Operand) w, (do eqGuard op t a' b' (.bool a) (.bool b); binOp op t (.bool a) (.bool b)).run P w = .ok v w ∧ flat1 v = true) : BinOk P op t (.bool a) (.bool b) K r :=
  ⟨v, h1, h2, fun m x' y' a' b' w hx hy => by rw [hx.of_bool, hy.of_bool]; exact h3 a' b' w⟩
section
variable {P : Program} {w : World}
theorem equalIn_bool (d : Nat) (t : TypeId) (a b : Bool) (hu : P.underlying t = some .bool) : (Op.equalIn (d + 1) t (.bool a) (.bool b)).run P w = .ok (a == b) w := by
  simp [Op.equalIn, run_underlying hu]
theorem equalIn_ptr (d : Nat) (t e : TypeId) (a : Option Addr) (hu : P.underlying t = some (.pointer e)) : (Op.equalIn (d + 1) t (.pointer a) (.pointer none)).run P w = .ok a.isNone w := by
  cases a <;> simp [Op.equalIn, run_underlying hu]
theorem equalIn_slice (d : Nat) (t e : TypeId) (a : Option Addr) (n c n2 c2 : Nat) (hu : P.underlying t = some (.slice e)) : (Op.equalIn (d + 1) t (.slice a n c) (.slice none n2 c2)).run P w = .ok a.isNone w := by
  cases a <;> simp [Op.equalIn, run_underlying hu]
theorem equal_bool (t : TypeId) (a b : Bool) (hu : P.underlying t = some .bool) : (Op.equal t (.bool a) (.bool b)).run P w = .ok (a == b) w := equalIn_bool 9999 t a b hu
theorem equal_ptr (t e : TypeId) (a : Option Addr) (hu : P.underlying t = some (.pointer e)) : (Op.equal t (.pointer a) (.pointer none)).run P w = .ok a.isNone w := equalIn_ptr 9999 t e a hu
theorem equal_slice (t e : TypeId) (a : Option Addr) (n c n2 c2 : Nat) (hu : P.underlying t = some (.slice e)) : (Op.equal t (.slice a n c) (.slice none n2 c2)).run P w = .ok a.isNone w := equalIn_slice 9999 t e a n c n2 c2 hu
end
set_option maxHeartbeats 1000000 in
theorem lbin_ints {P : Program} {op : BinOp} {t : TypeId} {k k' : IntKind} {a b : Int} {K : Value → R} {r : LR} (h : lbin P op t (.int k a) (.int k' b) K = some r) : BinOk P op t (.int k a) (.int k' b) K r := by
  simp only [lbin] at h
  cases op <;> simp only [when_iff, cond_iff, decide_eq_true_eq, Bool.not_eq_true', decide_eq_false_iff_not] at h
  case shl => exact .ints _ h.2 (fun K2 => by simp [lbin, h.1]) (fun a' b' w => by simp [eqGuard, binOp, Op.shift, h.1, flat1])
  case shr => exact .ints _ h.2 (fun K2 => by simp [lbin, h.1]) (fun a' b' w => by simp [eqGuard, binOp, Op.shift, h.1, flat1])
  all_goals obtain ⟨hk, h⟩ := h; subst hk
  case quo => exact .ints _ h.2 (fun K2 => by simp [lbin, h.1]) (fun a' b' w => by simp [eqGuard, binOp, Op.intDiv, h.1, flat1])
  case rem => exact .ints _ h.2 (fun K2 => by simp [lbin, h.1]) (fun a' b' w => by simp [eqGuard, binOp, Op.intDiv, h.1, flat1])
  all_goals exact .ints _ h (fun K2 => by simp [lbin]) (fun a' b' w => by simp [eqGuard, binOp, Op.intArith, Op.intBits, Op.intCmp, bitop, flat1])
set_option maxHeartbeats 1000000 in
theorem lbin_strs {P : Program} {op : BinOp} {t : TypeId} {a b : ByteArray} {K : Value → R} {r : LR} (h : lbin P op t (.string a) (.string b) K = some r) : BinOk P op t (.string a) (.string b) K r := by
  simp only [lbin] at h
  cases op <;> simp only [when_iff, decide_eq_true_eq] at h <;> first | (cases h; done) | skip
  case add => exact .strs _ h.2 (fun K2 => by simp only [lbin, h.1, decide_true, when_true]) (fun a' b' w => by
      have h1 := fitsS_le h.1
      simp only [maxI] at h1
      have h2 : ¬ (((a.size + b.size : Nat) : Int) > IntKind.i64.max) := by
        have : IntKind.i64.max = 9223372036854775807 := by decide
        omega
      simp only [eqGuard, binOp, Op.stringOp, if_neg h2]
      simp [flat1])
  all_goals exact .strs _ h (fun K2 => by simp [lbin]) (fun a' b' w => by simp [eqGuard, binOp, Op.stringOp, flat1])
theorem equalIn_ptrs {P : Program} {t e : TypeId} {i : TypeInfo} (d : Nat) (hu : P.underlying t = some (.pointer e)) (hi : P.info? e = some i) (a : Addr) (w : World) :
    (Op.equalIn (d + 1) t (.pointer (some a)) (.pointer (some a))).run P w = .ok true w := by
  have hs : (sameAddr a a).run P w = .ok true w := by simp [sameAddr]
  have ht : (typeInfo e).run P w = .ok i w := by simp [typeInfo, hi]
  simp only [Op.equalIn, Sem.run_bind, run_underlying hu, Result.andThen_ok, sizeOf, ht, Sem.run_pure]
  by_cases h0 : i.size = 0
  · simp [h0]
  · simp [h0, hs]
theorem equal_ptrs {P : Program} {t e : TypeId} {i : TypeInfo} (hu : P.underlying t = some (.pointer e)) (hi : P.info? e = some i) (a : Addr) (w : World) :
    (Op.equal t (.pointer (some a)) (.pointer (some a))).run P w = .ok true w := equalIn_ptrs 9999 hu hi a w
theorem equalIn_nilPtr {P : Program} {t e : TypeId} (d : Nat) (hu : P.underlying t = some (.pointer e)) (b : Option Addr) (w : World) :
    (Op.equalIn (d + 1) t (.pointer none) (.pointer b)).run P w = .ok b.isNone w := by
  cases b <;> simp [Op.equalIn, run_underlying hu]
theorem equal_nilPtr {P : Program} {t e : TypeId} (hu : P.underlying t = some (.pointer e)) (b : Option Addr) (w : World) :
    (Op.equal t (.pointer none) (.pointer b)).run P w = .ok b.isNone w := equalIn_nilPtr 9999 hu b w
theorem peq_ok {P : Program} {t e : TypeId} {i : TypeInfo} {a b : Option Addr} {x : Bool} {m : RMap} {x' y' : Value} (hu : P.underlying t = some (.pointer e)) (hi : P.info? e = some i) (h : peq a b = some x)
    (hx : VR m (.pointer a) x') (hy : VR m (.pointer b) y') (w : World) :
    ∃ a2 b2, x' = .pointer a2 ∧ y' = .pointer b2 ∧ (Op.equal t (.pointer a2) (.pointer b2)).run P w = .ok x w := by
  unfold peq at h
  split at h
  · injection h with h; subst h
    cases a with
    | none => exact ⟨_, _, hx.of_nilPtr, hy.of_nilPtr, equal_ptr _ _ _ hu⟩
    | some a => obtain ⟨i, _, e⟩ := hx.of_ptr; exact ⟨_, _, e, hy.of_nilPtr, equal_ptr _ _ _ hu⟩
  · rename_i b
    split at h
    · injection h with h; subst h
      obtain ⟨j, _, ey⟩ := hy.of_ptr
      exact ⟨_, _, hx.of_nilPtr, ey, equal_nilPtr hu _ w⟩
    · rename_i a
      simp only [cond_eq_ite, decide_eq_true_eq] at h
      split at h
      · rename_i hab
        injection h with h; subst h; subst hab
        obtain ⟨j, hj, ex⟩ := hx.of_ptr
        obtain ⟨j2, hj2, ey⟩ := hy.of_ptr
        rw [hj] at hj2; injection hj2 with hj2; subst hj2
        exact ⟨_, _, ex, ey, equal_ptrs hu hi _ w⟩
      · cases h
theorem lbin_ok {P : Program} {op : BinOp} {t : TypeId} {x y : Value} {K : Value → R} {r : LR} (h : lbin P op t x y K = some r) : BinOk P op t x y K r := by
  have h0 := h
  unfold lbin at h
  split at h
  · exact lbin_ints h0
  · exact lbin_strs h0
  · rename_i a b
    split at h
    · rename_i hu
      exact .bools _ h (fun K2 => by simp [lbin, hu]) (fun a' b' w => by simp [eqGuard, binOp, equal_bool _ _ _ hu, flat1])
    · rename_i hu
      exact .bools _ h (fun K2 => by simp [lbin, hu]) (fun a' b' w => by simp [eqGuard, binOp, equal_bool _ _ _ hu, flat1])
    · cases h
  · rename_i a b
    split at h
    · rename_i e hu
      rw [obind_iff] at h; obtain ⟨i, hi, h⟩ := h
      rw [obind_iff] at h; obtain ⟨x, hx0, h⟩ := h
      refine ⟨_, h, fun K2 => by simp only [lbin, hu, hi, hx0, obind_some], fun m x' y' a' b' w hx hy => ?_⟩
      obtain ⟨a2, b2, rfl, rfl, he⟩ := peq_ok hu hi hx0 hx hy w
      simp [eqGuard, binOp, he, flat1]
    · rename_i e hu
      rw [obind_iff] at h; obtain ⟨i, hi, h⟩ := h
      rw [obind_iff] at h; obtain ⟨x, hx0, h⟩ := h
      refine ⟨_, h, fun K2 => by simp only [lbin, hu, hi, hx0, obind_some], fun m x' y' a' b' w hx hy => ?_⟩
      obtain ⟨a2, b2, rfl, rfl, he⟩ := peq_ok hu hi hx0 hx hy w
      simp [eqGuard, binOp, he, flat1]
    · cases h
  · rename_i a n c n2 c2
    have shape : ∀ (m : RMap) (x' : Value), VR m (.slice a n c) x' → ∃ a' n' c', x' = .slice a' n' c' ∧ a'.isNone = a.isNone := fun m x' hx => by
      cases a with
      | none => exact ⟨_, _, _, hx.of_nilSlice, rfl⟩
      | some a =>
        rcases hx.of_slice with ⟨_, i, _, rfl⟩ | ⟨_, i, _, rfl⟩ | ⟨_, _, a', c', rfl⟩ <;> exact ⟨_, _, _, rfl, rfl⟩
    split at h
    · rename_i hu
      refine ⟨_, h, fun K2 => by simp [lbin, hu], fun m x' y' a' b' w hx hy => ?_⟩
      obtain ⟨a2, n', c', rfl, e⟩ := shape m x' hx
      rw [hy.of_nilSlice, ← e]
      simp [eqGuard, binOp, equal_slice _ _ _ _ _ _ _ hu, flat1]
    · rename_i hu
      refine ⟨_, h, fun K2 => by simp [lbin, hu], fun m x' y' a' b' w hx hy => ?_⟩
      obtain ⟨a2, n', c', rfl, e⟩ := shape m x' hx
      rw [hy.of_nilSlice, ← e]
      simp [eqGuard, binOp, equal_slice _ _ _ _ _ _ _ hu, flat1]
    · cases h
  · cases h
theorem lun_ok {op : UnOp} {x : Value} {K : Value → R} {r : LR} (h : lun op x K = some r) :
    ∃ v, K v = some r ∧ (∀ K2, lun op x K2 = K2 v) ∧ ∀ (P : Program) (m : RMap) (x' : Value) (w : World), VR m x x' → (Op.unary op x').run P w = .ok v w ∧ flat1 v = true := by
  unfold lun at h
  split at h
  · exact ⟨_, h, fun K2 => rfl, fun P m x' w hx => by rw [hx.of_int]; simp [Op.unary, Op.intArith, flat1]⟩
  · exact ⟨_, h, fun K2 => rfl, fun P m x' w hx => by rw [hx.of_int]; simp [Op.unary, Op.intBits, bitop, flat1]⟩
  · exact ⟨_, h, fun K2 => rfl, fun P m x' w hx => by rw [hx.of_bool]; simp [Op.unary, flat1]⟩
  · cases h
def leafV (l : Leaf) (x : Option Value) : Option Value :=
  match l with
  | .i k => (x.bind (asI k)).map (.int k ·)
  | .b => (x.bind asB).map .bool
  | .s => (x.bind asS).map .string
  | .p => (x.bind asP).map .pointer
  | .sl => (x.bind asSl).map fun s => .slice s.a s.n s.c
  | .m => (x.bind asM).map .map
  | .raw => x
theorem leaf_eq (l : Leaf) (x : Option Value) (K : Value → R) : leaf l x K = obind (leafV l x) K := by
  cases l <;> simp only [leaf, leafV]
  case i k => cases x.bind (asI k) <;> rfl
  case b => cases x.bind asB <;> rfl
  case s => cases x.bind asS <;> rfl
  case p => cases x.bind asP <;> rfl
  case sl => cases x.bind asSl <;> rfl
  case m => cases x.bind asM <;> rfl
theorem leafV_same {l : Leaf} {x : Option Value} {v : Value} (h : leafV l x = some v) : x = some v := by
  cases x with
  | none => cases l <;> simp [leafV] at h
  | some u =>
    cases l <;> simp only [leafV, Option.bind_some, Option.map_eq_some_iff] at h
    case i k => obtain ⟨n, h1, rfl⟩ := h; cases u <;> simp [asI] at h1; obtain ⟨rfl, rfl⟩ := h1; rfl
    case b => obtain ⟨n, h1, rfl⟩ := h; cases u <;> simp [asB] at h1; subst h1; rfl
    case s => obtain ⟨n, h1, rfl⟩ := h; cases u <;> simp [asS] at h1; subst h1; rfl
    case p => obtain ⟨n, h1, rfl⟩ := h; cases u <;> simp [asP] at h1; subst h1; rfl
    case sl => obtain ⟨n, h1, rfl⟩ := h; cases u <;> simp [asSl] at h1; subst h1; rfl
    case m => obtain ⟨n, h1, rfl⟩ := h; cases u <;> simp [asM] at h1; subst h1; rfl
    case raw => exact h
theorem unLeaves_same : ∀ {ls : List Leaf} {vs : List Value} {K : List Value → R} {r : LR}, unLeaves ls vs K = some r → ls.length = vs.length →
    K vs = some r ∧ ∀ K2, unLeaves ls vs K2 = K2 vs
  | [], vs, K, r, h, hl => by
    have : vs = [] := List.eq_nil_of_length_eq_zero (by simpa using hl.symm)
    subst this
    exact ⟨h, fun _ => rfl⟩
  | l :: ls, [], K, r, h, hl => by simp at hl
  | l :: ls, v :: vs, K, r, h, hl => by
    simp only [unLeaves, uncons_cons, leaf_eq, obind_iff] at h
    obtain ⟨u, h1, h2⟩ := h
    have h3 := leafV_same h1
    injection h3 with h3
    subst h3
    obtain ⟨h4, h5⟩ := unLeaves_same h2 (by simpa using hl)
    exact ⟨h4, fun K2 => by simp only [unLeaves, uncons_cons, leaf_eq, h1, obind_some, h5]⟩
theorem typed1_same {P : Program} {t : TypeId} {v : Value} {K : Value → R} {r : LR} (h : typed1 P t v K = some r) : K v = some r ∧ ∀ K2, typed1 P t v K2 = K2 v := by
  unfold typed1 at h ⊢
  cases ha : isAggT P t with
  | true =>
    simp only [ha, hif_true, cond_true] at h ⊢
    cases hl : leaves P 20 t with
    | some ls =>
      simp only [hl, obind_iff] at h ⊢
      obtain ⟨cs, h1, h2⟩ := h
      cases v <;> simp only [aggL] at h1 <;> first | (cases h1; done) | skip
      rename_i xs
      simp only [hif_eq, cond_eq_ite] at h1
      split at h1
      case isFalse => cases h1
      rename_i hb
      have hb := Nat.eq_of_beq_eq_true hb
      injection h1 with h1
      subst h1
      obtain ⟨h3, h4⟩ := unLeaves_same h2 hb.symm
      refine ⟨by simpa using h3, fun K2 => ?_⟩
      simp only [aggL, hb, Nat.beq_refl, hif_true, cond_true, obind_some, h4]
    | none =>
      simp only [hl, obind_iff] at h ⊢
      obtain ⟨cs, h1, h2⟩ := h
      cases v <;> simp only [asAgg] at h1 <;> first | (cases h1; done) | skip
      injection h1 with h1
      subst h1
      exact ⟨h2, fun K2 => rfl⟩
  | false =>
    simp only [ha, hif_false, cond_false] at h ⊢
    split at h
    · simp only [leaf_eq, obind_iff] at h ⊢
      obtain ⟨u, h1, h2⟩ := h
      have h3 := leafV_same h1
      injection h3 with h3
      subst h3
      exact ⟨h2, fun K2 => by rw [h1]; rfl⟩
    · exact ⟨h, fun _ => rfl⟩
theorem typedAll_same {P : Program} : ∀ {ts : List TypeId} {vs : List Value} {K : List Value → R} {r : LR}, typedAll P ts vs K = some r → K vs = some r ∧ ∀ K2, typedAll P ts vs K2 = K2 vs
  | [], [], K, r, h => ⟨h, fun _ => rfl⟩
  | [], v :: vs, K, r, h => by cases h
  | l :: ls, [], K, r, h => by cases h
  | t :: ts, v :: vs, K, r, h => by
    simp only [typedAll, uncons_cons] at h
    obtain ⟨h1, h2⟩ := typed1_same h
    obtain ⟨h3, h4⟩ := typedAll_same (K := fun xs => K (v :: xs)) h1
    exact ⟨h3, fun K2 => by simp only [typedAll, uncons_cons, h2, h4]⟩
theorem typed_same {P : Program} {t : TypeId} {v : Value} {K : Value → R} {r : LR} (h : typed P t v K = some r) : K v = some r ∧ ∀ K2, typed P t v K2 = K2 v := by
  unfold typed at h ⊢
  split at h
  · rename_i ts hu
    cases he : ts.isEmpty with
    | true => rw [he] at h; exact ⟨h, fun _ => rfl⟩
    | false =>
      rw [he] at h
      simp only [hif_false, cond_false, obind_iff] at h
      obtain ⟨vs, h1, h2⟩ := h
      obtain ⟨h3, h4⟩ := typedAll_same h2
      cases v <;> simp only [tupL] at h1 <;> first | (cases h1; done) | skip
      injection h1 with h1
      subst h1
      exact ⟨by simpa using h3, fun K2 => by simp only [hif_false, cond_false, tupL, obind_some, h4]⟩
  · exact typed1_same h
end Go.Rlm
end

section
namespace Go.Rlm
section
variable {P : Program} {env : Env} {L : LHeap} {o : Oper} {r : LR} {K : Value → LHeap → R}
def Quiet (P : Program) (env : Env) (L : LHeap) (o : Oper) (v : Value) : Prop :=
  ∀ (m : RMap) (w : World) (a : Act), Rep P m L w → ER m env a.tmps → ∃ v', Gives P (execOp a.eval o) w v' w ∧ VR m v v'
def Does (P : Program) (env : Env) (L : LHeap) (o : Oper) (v : Value) (L' : LHeap) : Prop :=
  ∀ (m : RMap) (w : World) (a : Act), Rep P m L w → ER m env a.tmps → ∃ m' w' v', Gives P (execOp a.eval o) w v' w' ∧ VR m' v v' ∧ Rep P m' L' w' ∧ Tr m L w m' L' w'
theorem Quiet.does {v : Value} (h : Quiet P env L o v) : Does P env L o v L := fun m w a hr he =>
  let ⟨v', h1, h2⟩ := h m w a hr he; ⟨m, w, v', h1, h2, hr, .refl m L w⟩
def Res (P : Program) (env : Env) (L : LHeap) (o : Oper) (K : Value → LHeap → R) (r : LR) : Prop :=
  ∃ v L', K v L' = some r ∧ (∀ K2, lop P env L o K2 = K2 v L') ∧ ((L' = L ∧ Quiet P env L o v) ∨ (kindOf P o.op = .write ∧ Does P env L o v L')) ∧
    (kindOf P o.op = .pure → ∀ L2 K2, lop P env L2 o K2 = K2 v L2)
theorem Res.pure (v : Value) (h1 : K v L = some r) (h2 : ∀ L2 K2, lop P env L2 o K2 = K2 v L2)
    (h3 : ∀ (m : RMap) (w : World) (a : Act), Rep P m L w → ER m env a.tmps → ∃ v', (execOp a.eval o).run P w = .ok (.value v') w ∧ VR m v v') : Res P env L o K r :=
  ⟨v, L, h1, h2 L, .inl ⟨rfl, fun m w a hr he => let ⟨v', h4, h5⟩ := h3 m w a hr he; ⟨v', .inl h4, h5⟩⟩, fun _ => h2⟩
theorem Res.read (v : Value) (hk : kindOf P o.op ≠ .pure) (h1 : K v L = some r) (h2 : ∀ K2, lop P env L o K2 = K2 v L)
    (h3 : ∀ (m : RMap) (w : World) (a : Act), Rep P m L w → ER m env a.tmps → ∃ v', (execOp a.eval o).run P w = .ok (.value v') w ∧ VR m v v') : Res P env L o K r :=
  ⟨v, L, h1, h2, .inl ⟨rfl, fun m w a hr he => let ⟨v', h4, h5⟩ := h3 m w a hr he; ⟨v', .inl h4, h5⟩⟩, fun h => absurd h hk⟩
theorem Res.write (v : Value) (L' : LHeap) (hk : kindOf P o.op = .write) (h1 : K v L' = some r) (h2 : ∀ K2, lop P env L o K2 = K2 v L')
    (h3 : Does P env L o v L') : Res P env L o K r :=
  ⟨v, L', h1, h2, .inr ⟨hk, h3⟩, fun h => by rw [hk] at h; cases h⟩
theorem arr_map {α β : Type} (xs : Array α) (f : α → β) : xs.map f = ⟨xs.toList.map f⟩ := by apply Array.ext'; simp
theorem run_isAgg {t : TypeId} {d : TypeDesc} (h : P.underlying t = some d) (w : World) : (isAgg t).run P w = .ok (isAggT P t) w := by
  unfold isAgg isAggT
  simp only [Sem.run_bind, run_underlying h, Result.andThen_ok, h]
  cases d <;> rfl
theorem info_of_underlying {t : TypeId} {d : TypeDesc} (h : P.underlying t = some d) : ∃ i, P.info? t = some i := by
  unfold Program.underlying at h
  cases hi : P.info? t with
  | none => rw [hi] at h; cases h
  | some i => exact ⟨i, rfl⟩
theorem run_size {t : TypeId} {d : TypeDesc} (h : P.underlying t = some d) (w : World) : (sizeOf t).run P w = .ok (P.cellsOf t) w := by
  obtain ⟨i, hi⟩ := info_of_underlying h
  simp [sizeOf, typeInfo, hi, Program.cellsOf]
theorem isAggT_underlying {t : TypeId} (h : isAggT P t = true) : ∃ d, P.underlying t = some d := by
  unfold isAggT at h
  cases hu : P.underlying t with
  | none => rw [hu] at h; cases h
  | some d => exact ⟨d, rfl⟩
theorem leaves_underlying {d : Nat} {t : TypeId} {ls : List Leaf} (h : leaves P d t = some ls) : ∃ d, P.underlying t = some d := by
  cases d with
  | zero => cases h
  | succ d =>
    unfold leaves at h
    cases hu : P.underlying t with
    | none => rw [hu] at h; cases h
    | some d => exact ⟨d, rfl⟩
theorem ldLeaves_ok {a : Addr} : ∀ {ls : List Leaf} {j : Nat} {K : List Value → R}, ldLeaves L a ls j K = some r →
    ∃ vs, vs.length = ls.length ∧ K vs = some r ∧ (∀ K2, ldLeaves L a ls j K2 = K2 vs) ∧ ∀ (q : Nat) (v : Value), vs[q]? = some v → cell L (a.add (j + q)) = some v
  | [], j, K, h => ⟨[], rfl, h, fun _ => rfl, by simp⟩
  | l :: ls, j, K, h => by
    simp only [ldLeaves, leaf_eq, obind_iff] at h
    obtain ⟨v, h1, h2⟩ := h
    obtain ⟨vs, h3, h4, h5, h6⟩ := ldLeaves_ok h2
    refine ⟨v :: vs, by simp [h3], h4, fun K2 => by simp only [ldLeaves, leaf_eq, h1, obind_some, h5], fun q u hq => ?_⟩
    cases q with
    | zero => simp at hq; subst hq; exact leafV_same h1
    | succ q => simp at hq; have := h6 q u hq; rwa [show j + (q + 1) = j + 1 + q by omega]
theorem loadT_ok {t : TypeId} {a : Addr} {K : Value → R} (h : loadT P t L a K = some r) :
    ∃ v, K v = some r ∧ (∀ K2, loadT P t L a K2 = K2 v) ∧ ∀ (m : RMap) (w : World) (i : Info), Rep P m L w → m a.block = some i → ∃ v', (loadVar t (i.at a)).run P w = .ok v' w ∧ VR m v v' := by
  unfold loadT at h
  cases ha : isAggT P t with
  | true =>
    obtain ⟨d, hu⟩ := isAggT_underlying ha
    simp only [ha, hif_true, cond_true] at h
    have fin : ∀ cs : List Value, cs.length = P.cellsOf t → (∀ (q : Nat) (v : Value), cs[q]? = some v → cell L (a.add q) = some v) → ∀ (m : RMap) (w : World) (i : Info), Rep P m L w → m a.block = some i →
        ∃ v', (loadVar t (i.at a)).run P w = .ok v' w ∧ VR m (.agg cs.toArray) v' := fun cs hl hc m w i hr hi => by
      obtain ⟨cs', h6, h7, h8⟩ := hr.cells hi hc
      refine ⟨.agg ⟨cs'⟩, ?_, .agg h7 h8⟩
      rw [hl] at h6
      simp only [loadVar, Sem.run_bind, run_isAgg hu, Result.andThen_ok, ha, if_true, run_size hu, h6, Sem.run_pure]
    split at h
    · rename_i ls hl
      simp only [cond_iff] at h
      obtain ⟨hb, h⟩ := h
      have hb' := Nat.eq_of_beq_eq_true hb
      obtain ⟨vs, h1, h2, h3, h4⟩ := ldLeaves_ok h
      refine ⟨_, h2, fun K2 => by simp only [loadT, ha, hif_true, cond_true, hl, hb, h3], fin vs (h1.trans hb') fun q v hq => by simpa using h4 q v hq⟩
    · rename_i hl
      simp only [obind_iff] at h
      obtain ⟨cs, h1, h2⟩ := h
      obtain ⟨h3, h4⟩ := cellsAt_cell h1
      refine ⟨_, h2, fun K2 => by simp only [loadT, ha, hif_true, cond_true, hl, h1, obind_some], fin cs h3 fun q v hq => by rw [addrN_add (cellsAt_spot h1)]; exact h4 q v hq⟩
  | false =>
    simp only [ha, hif_false, cond_false] at h
    split at h
    case h_2 => cases h
    rename_i l hl
    obtain ⟨d, hu⟩ := leaves_underlying hl
    simp only [leaf_eq, obind_iff] at h
    obtain ⟨v, h1, h2⟩ := h
    refine ⟨v, h2, fun K2 => by simp only [loadT, ha, hif_false, cond_false, hl, leaf_eq, h1, obind_some], fun m w i hr hi => ?_⟩
    obtain ⟨i', v', h3, h4, h5, _⟩ := hr.cell (leafV_same h1)
    rw [hi] at h3; injection h3 with h3; subst h3
    refine ⟨v', ?_, h5⟩
    simp only [loadVar, Sem.run_bind, run_isAgg hu, Result.andThen_ok, ha, Bool.false_eq_true, if_false, run_load, h4]
theorem cellsOf_ok {m : RMap} {u u' : Value} {vs : List Value} (h : cellsOf u = some vs) (hv : VR m u u') : VRs m vs u'.cells.toList ∧ ∀ v ∈ vs, one v = true := by
  cases u with
  | agg cs =>
    injection h with h; subst h
    obtain ⟨cs', rfl, h1, h2⟩ := hv.of_agg
    exact ⟨h1, h2⟩
  | tuple cs => cases h
  | _ =>
    injection h with h; subst h
    have h1 := hv.one_eq
    have h2 : u'.cells = #[u'] := by cases u' <;> first | rfl | (simp [one] at h1; done)
    rw [h2]
    exact ⟨.cons hv .nil, by simp [one]⟩
theorem lop_move {x : Operand} (ho : o.op = .move x ∨ o.op = .assign x) (h : lop P env L o K = some r) : Res P env L o K r := by
  obtain ⟨dst, op, ty, pos, after, guard⟩ := o
  simp only at ho
  rcases ho with rfl | rfl <;>
  · simp only [lop, ev_eq, obind_iff] at h
    obtain ⟨v, h1, h2⟩ := h
    exact .pure v h2 (fun L2 K2 => by simp only [lop, ev_eq, h1, obind_some]) fun m w a _ he => ⟨_, rfl, he.eval h1⟩
theorem lop_pick {c x y : Operand} (ho : o.op = .pick c x y) (h : lop P env L o K = some r) : Res P env L o K r := by
  obtain ⟨dst, op, ty, pos, after, guard⟩ := o
  simp only at ho
  subst ho
  simp only [lop, ev_eq, obind_iff] at h
  obtain ⟨v, h1, h2⟩ := h
  split at h2
  case h_2 => cases h2
  rename_i b
  rw [lif_iff] at h2
  rcases h2 with ⟨rfl, h2⟩ | ⟨rfl, h2⟩ <;>
  · simp only [obind_iff] at h2
    obtain ⟨u, h3, h4⟩ := h2
    refine .pure u h4 (fun L2 K2 => by simp only [lop, ev_eq, h1, h3, obind_some, lif_true, lif_false]) fun m w a _ he => ⟨_, ?_, he.eval h3⟩
    have := he.eval h1
    simp [execOp, asBool, VR.of_bool this]
theorem lop_nilCheck {x : Operand} (ho : o.op = .nilCheck x) (h : lop P env L o K = some r) : Res P env L o K r := by
  obtain ⟨dst, op, ty, pos, after, guard⟩ := o
  simp only at ho
  subst ho
  simp only [lop, ev_eq, obind_iff] at h
  obtain ⟨v, h1, h2⟩ := h
  split at h2
  · rename_i p
    rw [obind_iff] at h2
    obtain ⟨a, rfl, h3⟩ := h2
    refine .pure _ h3 (fun L2 K2 => by simp only [lop, ev_eq, h1, obind_some]) fun m w a _ he => ⟨_, ?_, he.eval h1⟩
    obtain ⟨i, h4, h5⟩ := (he.eval h1).of_ptr
    simp [execOp, h5]
  · rename_i u hnp
    rw [obind_iff] at h2
    obtain ⟨u2, h3, h4⟩ := h2
    have hu : u2 = v := by
      cases v with
      | func f a b => cases f <;> simp [nonNil] at h3; exact h3.symm
      | iface t y => simp [nonNil] at h3; exact h3.symm
      | _ => simp [nonNil] at h3
    subst hu
    refine .pure _ h4 (fun L2 K2 => ?_) fun m w a _ he => ⟨_, ?_, he.eval h1⟩
    · simp only [lop, ev_eq, h1, obind_some]
      cases u2 with
      | func f a b => simp only [h3, obind_some]
      | iface t y => simp only [h3, obind_some]
      | _ => simp [nonNil] at h3
    · have hv := he.eval h1
      cases u2 with
      | func f x y =>
        cases f <;> simp [nonNil] at h3
        obtain ⟨a', b', h5, _, _⟩ := hv.of_func
        simp [execOp, h5]
      | iface t y =>
        obtain ⟨u, h5, _⟩ := hv.of_iface
        simp [execOp, h5]
      | _ => simp [nonNil] at h3
theorem lop_unOp {uop : UnOp} {t : TypeId} {x : Operand} (ho : o.op = .unOp uop t x) (h : lop P env L o K = some r) : Res P env L o K r := by
  obtain ⟨dst, op, ty, pos, after, guard⟩ := o
  simp only at ho
  subst ho
  simp only [lop, ev_eq, obind_iff] at h
  obtain ⟨v, h1, h3⟩ := h
  obtain ⟨z, h4, h5, h6⟩ := lun_ok h3
  refine .pure z h4 (fun L2 K2 => by simp only [lop, ev_eq, h1, obind_some, h5]) fun m w a _ he => ?_
  obtain ⟨h7, h8⟩ := h6 P m _ w (he.eval h1)
  exact ⟨z, by simp [execOp, h7], .flat1 h8⟩
theorem lop_makeInterface {t : TypeId} {x : Operand} (ho : o.op = .makeInterface t x) (h : lop P env L o K = some r) : Res P env L o K r := by
  obtain ⟨dst, op, ty, pos, after, guard⟩ := o
  simp only at ho
  subst ho
  simp only [lop, ev_eq, obind_iff] at h
  obtain ⟨v, h1, h3⟩ := h
  split at h3
  · cases h3
  · cases h3
  rename_i d hi hu
  refine .pure _ h3 (fun L2 K2 => by
    simp only [lop, ev_eq, h1, obind_some, hu]) fun m w a _ he => ⟨_, ?_, .iface (he.eval h1)⟩
  have : (Instr.makeInterface t (a.eval x)).run P w = .ok (.iface t (a.eval x)) w := by
    simp only [Instr.makeInterface, Sem.run_bind, run_underlying hu, Result.andThen_ok]
    cases d <;> first | rfl | exact absurd rfl (hi _)
  simp [execOp, this]
theorem lop_typeAssert {x : Operand} {s t : TypeId} {ok : Bool} (ho : o.op = .typeAssert x s t ok) (h : lop P env L o K = some r) : Res P env L o K r := by
  obtain ⟨dst, op, ty, pos, after, guard⟩ := o
  simp only at ho
  subst ho
  simp only [lop, ev_eq, obind_iff] at h
  obtain ⟨v, h1, h2⟩ := h
  split at h2
  case h_2 => cases h2
  rename_i t' u
  rw [cond_iff] at h2
  obtain ⟨ht, h2⟩ := h2
  have ht := Nat.eq_of_beq_eq_true ht
  subst ht
  split at h2
  · cases h2
  · cases h2
  rename_i d hi hu
  have run : ∀ (u' : Value) (w : World), (Instr.typeAssert (.iface t' u') s t' ok).run P w = .ok (if ok then .tuple #[u', .bool true] else u') w := fun u' w => by
    simp only [Instr.typeAssert, Sem.run_bind, run_underlying hu, Result.andThen_ok]
    cases d <;> first | exact absurd rfl (hi _) | simp
  cases ok with
  | true =>
    rw [hif_true] at h2
    refine .pure _ h2 (fun L2 K2 => by simp only [lop, ev_eq, h1, obind_some, hu, Nat.beq_refl, hif_true]) fun m w a _ he => ?_
    obtain ⟨u', e, hv⟩ := (he.eval h1).of_iface
    refine ⟨.tuple #[u', .bool true], ?_, .tuple (.cons hv (.cons (.flat1 rfl) .nil))⟩
    simp [execOp, e, run]
  | false =>
    rw [hif_false] at h2
    refine .pure _ h2 (fun L2 K2 => by simp only [lop, ev_eq, h1, obind_some, hu, Nat.beq_refl, hif_true, hif_false]) fun m w a _ he => ?_
    obtain ⟨u', e, hv⟩ := (he.eval h1).of_iface
    refine ⟨u', ?_, hv⟩
    simp [execOp, e, run]
theorem lop_makeFunc {f : FuncId} {xs ys : Array Operand} (ho : o.op = .makeFunc (.func f) xs ys) (h : lop P env L o K = some r) : Res P env L o K r := by
  obtain ⟨dst, op, ty, pos, after, guard⟩ := o
  simp only at ho
  subst ho
  simp only [lop, evs_eq, obind_iff] at h
  obtain ⟨az, h1, bs, h2, h3⟩ := h
  refine .pure _ h3 (fun L2 K2 => by simp only [lop, evs_eq, h1, h2, obind_some]) fun m w a _ he => ?_
  refine ⟨.func (.func f) (xs.map a.eval) (ys.map a.eval), by simp [execOp, Instr.makeFunc], ?_⟩
  have e : Value.func (.func f) (xs.map a.eval) (ys.map a.eval) = .func (.func f) ⟨xs.toList.map a.eval⟩ ⟨ys.toList.map a.eval⟩ := by rw [arr_map xs, arr_map ys]
  rw [e]
  exact .func rfl (he.evals h1) (he.evals h2)
theorem lop_extract {x : Operand} {j : Nat} (ho : o.op = .extract x j) (h : lop P env L o K = some r) : Res P env L o K r := by
  obtain ⟨dst, op, ty, pos, after, guard⟩ := o
  simp only at ho
  subst ho
  simp only [lop, ev_eq, obind_iff] at h
  obtain ⟨v, h1, h2⟩ := h
  split at h2
  case h_2 => cases h2
  rename_i vs
  rw [obind_iff] at h2
  obtain ⟨u, h3, h4⟩ := h2
  refine .pure _ h4 (fun L2 K2 => by simp only [lop, ev_eq, h1, obind_some, h3]) fun m w a _ he => ?_
  obtain ⟨vs', h5, h6⟩ := (he.eval h1).of_tuple
  obtain ⟨u', h7, h8⟩ := h6.get h3
  refine ⟨u', ?_, h8⟩
  have h9 : vs'[j]? = some u' := by simpa using h7
  simp [execOp, h5, Instr.extract, h9]
end
end Go.Rlm
end

section
namespace Go.Rlm
section
variable {P : Program} {env : Env} {L : LHeap} {o : Oper} {r : LR} {K : Value → LHeap → R}
theorem lop_load {t : TypeId} {x : Operand} (ho : o.op = .load t x) (h : lop P env L o K = some r) : Res P env L o K r := by
  obtain ⟨dst, op, ty, pos, after, guard⟩ := o
  simp only at ho
  subst ho
  simp only [lop, ev_eq, obind_iff] at h
  obtain ⟨v, h1, h2⟩ := h
  split at h2
  case h_2 => cases h2
  rename_i ad
  obtain ⟨u, h3, h4, h5⟩ := loadT_ok h2
  refine .read u (by simp [kindOf]) h3 (fun K2 => by
    have h6 : ∀ K3, loadT P t L ad K3 = K3 u := h4
    simp only [lop, ev_eq, h1, obind_some, h6]) fun m w a hr he => ?_
  obtain ⟨i, h6, h7⟩ := (he.eval h1).of_ptr
  obtain ⟨v', h8, h9⟩ := h5 m w i hr h6
  exact ⟨v', by simp [execOp, h7, Instr.loadAt, Instr.sureAddr, h8], h9⟩
theorem run_storeVar {t : TypeId} {d : TypeDesc} (hu : P.underlying t = some d) {w w' : World} {a : Addr} {u : Value} (hs : u.cells.toList.length = P.cellsOf t)
    (h : (storeCells a u.cells.toList).run P w = .ok () w') : (storeVar t a u).run P w = .ok () w' := by
  have : ¬ (u.cells.size ≠ P.cellsOf t) := by simpa using hs
  simp only [storeVar, Sem.run_bind, run_size hu, Result.andThen_ok]
  rw [if_neg this]
  simp [h]
theorem lop_store {t : TypeId} {x y : Operand} (ho : o.op = .store t x y) (h : lop P env L o K = some r) : Res P env L o K r := by
  obtain ⟨dst, op, ty, pos, after, guard⟩ := o
  simp only at ho
  subst ho
  simp only [lop, ev_eq, obind_iff] at h
  obtain ⟨v, h1, u, h2, h3⟩ := h
  split at h3
  case h_2 => cases h3
  rename_i ad
  rw [obind_iff] at h3
  obtain ⟨vs, h4, h5⟩ := h3
  rw [when_iff, cond_iff] at h5
  obtain ⟨h6, hi0, h5⟩ := h5
  rw [obind_iff] at h5
  obtain ⟨L', h7, h8⟩ := h5
  refine .write _ L' rfl h8 (fun K2 => by simp only [lop, ev_eq, h1, h2, h4, h6, h7, hi0, obind_some, when_true, hif_true, cond_true]) fun m w a hr he => ?_
  obtain ⟨i, hi, hv⟩ := (he.eval h1).of_ptr
  obtain ⟨h9, h10⟩ := cellsOf_ok h4 (he.eval h2)
  obtain ⟨w', h11, h12, h13⟩ := hr.stores h7 h9 h10 hi
  obtain ⟨d, hd⟩ := Option.isSome_iff_exists.1 hi0
  refine ⟨m, w', undef, .inr ⟨?_, rfl⟩, .undef, h12, h13⟩
  have := run_storeVar (P := P) hd (w := w) (u := a.eval y) (h9.length.trans (Nat.eq_of_beq_eq_true h6)) h11
  simp [execOp, hv, Instr.storeAt, Instr.sureAddr, this]
theorem zeroOf_ok {t : TypeId} {z : List Value} (h : zeroOf P t = some z) : ∃ zv, (zeroValue t).run P = (fun w => .ok zv w) ∧ zv.cells.toList = z ∧ (∀ v ∈ z, flat1 v = true) ∧ (∀ v ∈ z, one v = true) := by
  unfold zeroOf at h
  split at h
  case h_2 => cases h
  rename_i zv hz
  split at h
  case h_2 => cases h
  rename_i cs hc
  simp only [hif_eq, cond_eq_ite] at h
  split at h
  case isFalse => cases h
  rename_i hf
  injection h with h
  subst h
  have hf' := List.all_eq_true.1 hf
  refine ⟨zv, ?_, ?_, hf', fun v hv => one_of_flat1 (hf' v hv)⟩
  · funext w
    cases hi : P.info? t with
    | none => rw [hi] at hz; cases hz
    | some i =>
      rw [hi] at hz
      simp only [Option.bind_some] at hz
      simp [zeroValue, typeInfo, hi, hz]
  · cases zv <;> simp [cellsOf] at hc <;> (subst hc; simp [Value.cells])
theorem run_newVar (t : TypeId) (v : Value) (w : World) : (newVar t v).run P w = .ok ⟨w.heap.size, 0, none⟩ { w with heap := w.heap.push (.cells v.cells t) } := by
  simp [newVar, newRow]
theorem Rep.push0 {m : RMap} {w : World} (h : Rep P m L w) {cs : List Value} {c : Array Value} {e : TypeId} (hv : VRs m cs c.toList) (ho : ∀ v ∈ cs, one v = true) :
    ∃ m', m' L.length = some ⟨w.heap.size, 0, 0, 0⟩ ∧ Rep P m' (L ++ [.cells cs e false 0]) { w with heap := w.heap.push (.cells c e) } ∧ Tr m L w m' (L ++ [.cells cs e false 0]) { w with heap := w.heap.push (.cells c e) } := by
  refine ⟨ins m L.length ⟨w.heap.size, 0, 0, 0⟩, by simp [ins], ?_⟩
  refine h.push (w' := { w with heap := w.heap.push (.cells c e) }) (cs' := c.toList) 0 0 (fz := (0, 0)) (extra := []) ?_ ?_ rfl rfl rfl hv ho (fun hne => absurd rfl hne)
  · simp
  · intro o _; simp
theorem lop_alloc {t : TypeId} (ho : o.op = .alloc t) (h : lop P env L o K = some r) : Res P env L o K r := by
  obtain ⟨dst, op, ty, pos, after, guard⟩ := o
  simp only at ho
  subst ho
  simp only [lop, obind_iff] at h
  obtain ⟨z, h1, h2⟩ := h
  obtain ⟨zv, h3, h4, h5, h6⟩ := zeroOf_ok h1
  refine .write _ _ rfl h2 (fun K2 => by simp only [lop, h1, obind_some]) fun m w a hr he => ?_
  obtain ⟨m', h7, h8, h9⟩ := hr.push0 (cs := z) (c := zv.cells) (e := t) (by rw [h4]; exact VRs.flat h5) h6
  refine ⟨m', _, _, .inl ?_, .ptr (a := ⟨L.length, 0, none⟩) h7, h8, h9⟩
  have h3' : ∀ w, (zeroValue t).run P w = .ok zv w := fun w => congrFun h3 w
  simp [execOp, Instr.alloc, h3', run_newVar, Info.at]
theorem lop_box {t : TypeId} {x : Operand} (ho : o.op = .box t x) (h : lop P env L o K = some r) : Res P env L o K r := by
  obtain ⟨dst, op, ty, pos, after, guard⟩ := o
  simp only at ho
  subst ho
  simp only [lop, ev_eq, obind_iff] at h
  obtain ⟨v, h1, vs, h2, h3⟩ := h
  refine .write _ _ rfl h3 (fun K2 => by simp only [lop, ev_eq, h1, h2, obind_some]) fun m w a hr he => ?_
  obtain ⟨h4, h5⟩ := cellsOf_ok h2 (he.eval h1)
  obtain ⟨m', h7, h8, h9⟩ := hr.push0 (cs := vs) (c := (a.eval x).cells) (e := t) h4 h5
  refine ⟨m', _, _, .inl ?_, .ptr (a := ⟨L.length, 0, none⟩) h7, h8, h9⟩
  simp [execOp, Instr.box, run_newVar, Info.at]
theorem foldl_zipIdx (vs : List Value) : ∀ (cs : Array Value) (o k : Nat), (vs.zipIdx k).foldl (fun cs (p : Value × Nat) => cs.setIfInBounds (o + p.2) p.1) cs = ⟨setAll cs.toList (o + k) vs⟩ := by
  induction vs with
  | nil => intro cs o k; rfl
  | cons v vs ih =>
    intro cs o k
    simp only [List.zipIdx_cons, List.foldl_cons, ih, setAll]
    congr 1
    simp [Nat.add_assoc]
theorem setAll_VRs {m : RMap} {cs cs' vs vs' : List Value} {o : Nat} (hc : VRs m cs cs') (hv : VRs m vs vs') (hle : o + vs.length ≤ cs.length) : VRs m (setAll cs o vs) (setAll cs' o vs') := by
  have l1 := hc.length
  have l2 := hv.length
  refine VRs.of_get (by simp [setAll_length, l1]) fun j v hj => ?_
  rw [setAll_get vs cs o j hle] at hj
  rw [setAll_get vs' cs' o j (by omega), l2]
  split at hj
  · rename_i hp; rw [if_pos hp]; exact hv.get hj
  · rename_i hp; rw [if_neg hp]; exact hc.get hj
theorem setAll_ones {cs vs : List Value} {o : Nat} (hle : o + vs.length ≤ cs.length) (hc : ∀ v ∈ cs, one v = true) (hv : ∀ v ∈ vs, one v = true) : ∀ v ∈ setAll cs o vs, one v = true := by
  intro v hm
  obtain ⟨j, hj⟩ := List.mem_iff_getElem?.1 hm
  rw [setAll_get vs cs o j hle] at hj
  split at hj
  · exact hv v (List.mem_of_getElem? hj)
  · exact hc v (List.mem_of_getElem? hj)
theorem fillL_ok : ∀ {ps : List (Nat × Nat × Value)} {cs : List Value} {K : List Value → R}, fillL cs ps K = some r →
    ∃ ds, K ds = some r ∧ (∀ K2, fillL cs ps K2 = K2 ds) ∧ ds.length = cs.length ∧ ∀ (place : Nat → Option (Nat × Nat)) (m : RMap) (cs' : List Value) (qs : List (Nat × Value)), VRs m cs cs' → (∀ v ∈ cs, one v = true) → qs.length = ps.length →
      (∀ (j : Nat) (p : Nat × Nat × Value) (q : Nat × Value), ps[j]? = some p → qs[j]? = some q → place q.1 = some (p.1, p.2.1) ∧ VR m p.2.2 q.2) →
      ∃ ds', Instr.fill place ⟨cs'⟩ qs = some ⟨ds'⟩ ∧ VRs m ds ds' ∧ ∀ v ∈ ds, one v = true
  | [], cs, K, h => ⟨cs, h, fun _ => rfl, rfl, fun place m cs' qs hc ho hl _ => by
      have : qs = [] := List.eq_nil_of_length_eq_zero (by simpa using hl)
      subst this
      exact ⟨cs', rfl, hc, ho⟩⟩
  | (p, n, v) :: ps, cs, K, h => by
    simp only [fillL, obind_iff, when_iff] at h
    obtain ⟨vs, h1, h2, h3, h4⟩ := h
    have h2' := Nat.eq_of_beq_eq_true h2
    have h3' : p + n ≤ cs.length := by simpa using h3
    obtain ⟨ds, h5, h6, h7, h8⟩ := fillL_ok h4
    refine ⟨ds, h5, fun K2 => by simp only [fillL, h1, h2, h3, obind_some, when_true, h6], by rw [h7, setAll_length], fun place m cs' qs hc ho hl hq => ?_⟩
    cases qs with
    | nil => simp at hl
    | cons q qs =>
      obtain ⟨h9, h10⟩ := hq 0 (p, n, v) q (by simp) (by simp)
      obtain ⟨h11, h12⟩ := cellsOf_ok h1 h10
      obtain ⟨ds', h13, h14, h15⟩ := h8 place m (setAll cs' p q.2.cells.toList) qs (setAll_VRs hc h11 (by omega)) (setAll_ones (by omega) ho h12) (by simpa using hl)
        fun j x y hx hy => hq (j + 1) x y (by simpa using hx) (by simpa using hy)
      refine ⟨ds', ?_, h14, h15⟩
      have l1 := hc.length
      have l2 := h11.length
      simp only at h9
      obtain ⟨q1, q2⟩ := q
      simp only [Instr.fill, h9]
      have hsz : q2.cells.size = n := by simpa using l2.trans h2'
      rw [if_neg (by simp [hsz]; omega)]
      have e : q2.cells.zipIdx.foldl (fun (cs : Array Value) (x : Value × Nat) => cs.setIfInBounds (p + x.2) x.1) (⟨cs'⟩ : Array Value) = (⟨setAll cs' p q2.cells.toList⟩ : Array Value) := by
        rw [← Array.foldl_toList]
        have : q2.cells.zipIdx.toList = q2.cells.toList.zipIdx := by simp
        rw [this, foldl_zipIdx q2.cells.toList ⟨cs'⟩ p 0]
        simp
      rw [e]
      exact h13
/-- The parts, whatever the model's temporaries are. -/
theorem evParts_unif (place : Nat → Option (Nat × Nat)) : ∀ {ps : List (Nat × Operand)} {K : List (Nat × Nat × Value) → R}, evParts env place ps K = some r →
    ∃ l, K l = some r ∧ (∀ K2, evParts env place ps K2 = K2 l) ∧ ∀ (m : RMap) (a : Act), ER m env a.tmps → (ps.map fun p => (p.1, a.eval p.2)).length = l.length ∧
      ∀ (j : Nat) (p : Nat × Nat × Value) (q : Nat × Value), l[j]? = some p → (ps.map fun p => (p.1, a.eval p.2))[j]? = some q → place q.1 = some (p.1, p.2.1) ∧ VR m p.2.2 q.2
  | [], K, h => ⟨[], h, fun _ => rfl, fun _ _ _ => ⟨rfl, by simp⟩⟩
  | (i, x) :: ps, K, h => by
    simp only [evParts] at h
    split at h
    case h_2 => cases h
    rename_i p n hp
    simp only [ev_eq, obind_iff] at h
    obtain ⟨v, h1, h2⟩ := h
    obtain ⟨l, h3, h4, h5⟩ := evParts_unif place h2
    refine ⟨(p, n, v) :: l, h3, fun K2 => by simp only [evParts, hp, ev_eq, h1, obind_some, h4], fun m a he => ?_⟩
    obtain ⟨h6, h7⟩ := h5 m a he
    refine ⟨by simpa using h6, fun j y q hy hq => ?_⟩
    cases j with
    | zero => simp at hy hq; subst hy; subst hq; exact ⟨hp, he.eval h1⟩
    | succ j => simp at hy hq; exact h7 j y q hy (by simpa using hq)
end
end Go.Rlm
end

section
namespace Go.Rlm
section
variable {P : Program} {env : Env} {L : LHeap} {o : Oper} {r : LR} {K : Value → LHeap → R}
theorem places_ok : ∀ {fs : List Field}, fs.all (fun f => (P.info? f.type).isSome) = true → fs.mapM (fun f => (P.info? f.type).map fun i => (f.offset, i.size)) = some (fs.map fun f => (f.offset, P.cellsOf f.type))
  | [], _ => rfl
  | f :: fs, h => by
    simp only [List.all_cons, Bool.and_eq_true] at h
    obtain ⟨i, hi⟩ := Option.isSome_iff_exists.1 h.1
    simp [List.mapM_cons, hi, places_ok h.2, Program.cellsOf]
theorem lop_build {t : TypeId} {parts : Array (Nat × Operand)} (ho : o.op = .build t parts) (h : lop P env L o K = some r) : Res P env L o K r := by
  obtain ⟨dst, op, ty, pos, after, guard⟩ := o
  simp only at ho
  subst ho
  have key : ∀ (place : Nat → Option (Nat × Nat)) (z : List Value), zeroOf P t = some z →
      (∀ L2 K2, lop P env L2 ⟨dst, .build t parts, ty, pos, after, guard⟩ K2 = evParts env place parts.toList fun ps => fillL z ps fun cs => K2 (.agg cs.toArray) L2) →
      (∀ (w : World) (zv : Value) (qs : Array (Nat × Value)) (cs : Array Value), (∀ w, (zeroValue t).run P w = .ok zv w) → Instr.fill place zv.cells qs.toList = some cs → (Instr.build t qs).run P w = .ok (.agg cs) w) →
      (evParts env place parts.toList fun ps => fillL z ps fun cs => K (.agg cs.toArray) L) = some r → Res P env L ⟨dst, .build t parts, ty, pos, after, guard⟩ K r := fun place z hz hu hrun h => by
    obtain ⟨l, h1, h2, h3⟩ := evParts_unif place h
    obtain ⟨zv, h4, h5, h6, h7⟩ := zeroOf_ok hz
    obtain ⟨ds, h8, h9, h10, h14⟩ := fillL_ok h1
    refine .pure _ h8 (fun L2 K2 => by rw [hu, h2, h9]) fun m w a hr he => ?_
    obtain ⟨h11, h12⟩ := h3 m a he
    obtain ⟨ds', h15, h16, h17⟩ := h14 place m z (parts.toList.map fun p => (p.1, a.eval p.2)) (VRs.flat h6) h7 h11 h12
    refine ⟨.agg ⟨ds'⟩, ?_, .agg h16 h17⟩
    have hz' : zv.cells = ⟨z⟩ := by rw [← h5]
    have hb := hrun w zv (parts.map fun (i, x) => (i, a.eval x)) ⟨ds'⟩ (fun w => congrFun h4 w) (by rw [hz']; simpa using h15)
    simp only [execOp, Sem.run_bind, hb, Result.andThen_ok, Sem.run_pure]
  simp only [lop] at h
  split at h
  · rename_i fs hu
    rw [cond_iff] at h
    obtain ⟨hall, h⟩ := h
    rw [obind_iff] at h
    obtain ⟨z, hz, h⟩ := h
    refine key _ z hz (fun L2 K2 => by simp only [lop, hu, hall, hz, obind_some, hif_true, cond_true]) (fun w zv qs cs h1 h2 => ?_) h
    have hp := run_places (P := P) w fs.toList _ (places_ok hall)
    simp [Instr.build, h1, run_underlying hu, Array.mapM_eq_mapM_toList, hp, h2]
  · rename_i n e hu
    rw [cond_iff] at h
    obtain ⟨hall, h⟩ := h
    rw [obind_iff] at h
    obtain ⟨z, hz, h⟩ := h
    obtain ⟨i, hi⟩ := Option.isSome_iff_exists.1 hall
    refine key _ z hz (fun L2 K2 => by simp only [lop, hu, hall, hz, obind_some, hif_true, cond_true]) (fun w zv qs cs h1 h2 => ?_) h
    have hs : P.cellsOf e = i.size := by simp [Program.cellsOf, hi]
    rw [hs] at h2
    simp [Instr.build, h1, run_underlying hu, sizeOf, typeInfo, hi, h2]
  · cases h
theorem zero_mod {zv : Value} {z : List Value} (hz : zv.cells.toList = z) (hp : 0 < z.length) (n : Nat) :
    (Array.range (n * z.length)).map (zv.cells[· % zv.cells.size]!) = ⟨(List.replicate n z).flatten⟩ := by
  have hsz : zv.cells.size = z.length := by rw [← hz]; simp
  apply Array.ext_getElem?
  intro j
  simp only [Array.getElem?_map, List.getElem?_toArray]
  by_cases hj : j < n * z.length
  · rw [Array.getElem?_range]
    simp only [hj, if_true, Option.map_some]
    have hm : j % z.length < z.length := Nat.mod_lt _ hp
    have e1 : zv.cells[j % zv.cells.size]! = z[j % z.length] := by
      rw [hsz, getElem!_pos zv.cells (j % z.length) (by omega)]
      simp [← hz]
    rw [e1]
    have key : ∀ (n j : Nat), j < n * z.length → ((List.replicate n z).flatten)[j]? = some (z[j % z.length]'(Nat.mod_lt _ hp)) := by
      intro n
      induction n with
      | zero => intro j hj; simp at hj
      | succ n ih =>
        intro j hj
        simp only [List.replicate_succ, List.flatten_cons]
        by_cases h1 : j < z.length
        · rw [List.getElem?_append_left h1]
          simp [Nat.mod_eq_of_lt h1, h1]
        · rw [List.getElem?_append_right (by omega), ih (j - z.length) (by rw [Nat.add_mul] at hj; omega)]
          congr 2
          exact (Nat.mod_eq_sub_mod (by omega)).symm
    rw [key n j hj]
  · have e1 : (Array.range (n * z.length))[j]? = none := by rw [Array.getElem?_eq_none]; simp; omega
    have e2 : ((List.replicate n z).flatten)[j]? = none := by
      rw [List.getElem?_eq_none]
      simp [List.length_flatten]
      omega
    rw [e1, e2]; rfl
theorem lop_buildSlice {t : TypeId} {n : Nat} {parts : Array (Nat × Operand)} (ho : o.op = .buildSlice t n parts) (h : lop P env L o K = some r) : Res P env L o K r := by
  obtain ⟨dst, op, ty, pos, after, guard⟩ := o
  simp only at ho
  subst ho
  simp only [lop] at h
  split at h
  case h_2 => cases h
  rename_i e hu
  rw [obind_iff] at h
  obtain ⟨z, hz, h⟩ := h
  obtain ⟨l, h1, h2, h3⟩ := evParts_unif _ h
  rw [when_iff, when_iff, when_iff] at h1
  obtain ⟨hb1, hb2, hb3, h1⟩ := h1
  obtain ⟨zv, h4, h5, h6, h7⟩ := zeroOf_ok hz
  obtain ⟨ds, h8, h9, h10, h14⟩ := fillL_ok h1
  have hzl := Nat.eq_of_beq_eq_true hb1
  have hzp : 0 < z.length := by simpa using hb2
  have hcap : n * z.length ≤ 2 ^ 24 := by simpa using hb3
  refine .write _ _ rfl h8 (fun K2 => by simp only [lop, hu, hz, obind_some, h2, hb1, hb2, hb3, when_true, h9]) fun m w a hr he => ?_
  obtain ⟨h11, h12⟩ := h3 m a he
  have hflat : ∀ v ∈ (List.replicate n z).flatten, flat1 v = true := fun v hv => by
    obtain ⟨l, hl, hv⟩ := List.mem_flatten.1 hv
    rw [List.eq_of_mem_replicate hl] at hv
    exact h6 v hv
  obtain ⟨ds', h15, h16, h17⟩ := h14 (fun j => some (j * P.cellsOf e, P.cellsOf e)) m (List.replicate n z).flatten (parts.toList.map fun p => (p.1, a.eval p.2)) (VRs.flat hflat) (fun v hv => one_of_flat1 (hflat v hv)) h11 h12
  obtain ⟨m', h18, h19, h20⟩ := hr.push0 (cs := ds) (c := ⟨ds'⟩) (e := e) h16 h17
  refine ⟨m', _, _, .inl ?_, .slice (a := ⟨L.length, 0, none⟩) (c := n) h18 ?_, h19, h20⟩
  · obtain ⟨i, hi⟩ : ∃ i, P.info? e = some i := by
      cases hi : P.info? e with
      | none =>
        have : P.cellsOf e = 0 := by simp [Program.cellsOf, hi]
        omega
      | some i => exact ⟨i, rfl⟩
    have hs : P.cellsOf e = i.size := by simp [Program.cellsOf, hi]
    have hz' : ∀ w, (zeroValue e).run P w = .ok zv w := fun w => congrFun h4 w
    have hm := zero_mod h5 hzp n
    rw [hzl] at hm hcap hzp
    have hb : (Instr.buildSlice t n (parts.map fun (i, x) => (i, a.eval x))).run P w = .ok (.slice (some ⟨w.heap.size, 0, none⟩) n n) { w with heap := w.heap.push (.cells ⟨ds'⟩ e) } := by
      have hc1 : ¬ (n * i.size > 2 ^ 24) := by rw [← hs]; omega
      simp only [Instr.buildSlice, Sem.run_bind, run_underlying hu, Result.andThen_ok, sizeOf, typeInfo, run_program, hi, Sem.run_pure]
      rw [if_neg hc1]
      rw [hs] at hm hzp h15
      by_cases hn : n * i.size = 0
      · have e0 : (Array.range (n * i.size)).map ((#[] : Array Value)[· % (#[] : Array Value).size]!) = ⟨(List.replicate n z).flatten⟩ := by
          have : (List.replicate n z).flatten = [] := List.eq_nil_of_length_eq_zero (by simp [List.length_flatten, hzl, hs, hn])
          rw [this, hn]; apply Array.ext'; simp
        have h15' : Instr.fill (fun j => some (j * i.size, i.size)) ((Array.range (n * i.size)).map ((#[] : Array Value)[· % (#[] : Array Value).size]!)) (parts.map fun (i, x) => (i, a.eval x)).toList = some ⟨ds'⟩ := by
          rw [e0]; simpa using h15
        simp only [hn, if_true, Sem.run_bind, Result.andThen_ok, Sem.run_pure, newRow, run_newObj]
        rw [hn] at h15'
        simp only [h15', Sem.run_bind, Result.andThen_ok, Sem.run_pure, newRow, run_newObj]
      · have h15' : Instr.fill (fun j => some (j * i.size, i.size)) ((Array.range (n * i.size)).map (zv.cells[· % zv.cells.size]!)) (parts.map fun (i, x) => (i, a.eval x)).toList = some ⟨ds'⟩ := by
          rw [hm]; simpa using h15
        simp only [hn, if_false, Sem.run_bind, hz', Result.andThen_ok, Sem.run_pure, h15', newRow, run_newObj]
    simp [execOp, hb, Info.at]
  · have : n ≤ n * z.length := Nat.le_mul_of_pos_right n (by omega)
    unfold OPEN
    omega
end
end Go.Rlm
end

section
namespace Go.Rlm
section
variable {P : Program} {env : Env} {L : LHeap} {o : Oper} {r : LR} {K : Value → LHeap → R}
theorem info_of_cells {t : TypeId} (h : 0 < P.cellsOf t) : ∃ i, P.info? t = some i ∧ P.cellsOf t = i.size := by
  cases hi : P.info? t with
  | none => simp [Program.cellsOf, hi] at h
  | some i => exact ⟨i, rfl, by simp [Program.cellsOf, hi]⟩
theorem run_size' {t : TypeId} (h : 0 < P.cellsOf t) (w : World) : (sizeOf t).run P w = .ok (P.cellsOf t) w := by
  obtain ⟨i, hi, e⟩ := info_of_cells h
  simp [sizeOf, typeInfo, hi, e]
theorem lop_fieldAddr {s : TypeId} {x : Operand} {j : Nat} (ho : o.op = .fieldAddr s x j) (h : lop P env L o K = some r) : Res P env L o K r := by
  obtain ⟨dst, op, ty, pos, after, guard⟩ := o
  simp only at ho
  subst ho
  simp only [lop, ev_eq, obind_iff] at h
  obtain ⟨v, h1, h2⟩ := h
  split at h2
  case h_2 => cases h2
  rename_i fs ad hu
  split at h2
  case h_2 => cases h2
  rename_i f hf
  rw [cond_iff] at h2
  obtain ⟨h3, h4⟩ := h2
  refine .pure _ h4 (fun L2 K2 => by simp only [lop, ev_eq, h1, obind_some, hu, hf, h3, hif_true, cond_true]) fun m w a hr he => ?_
  obtain ⟨i, h5, h6⟩ := (he.eval h1).of_ptr
  have hp : 0 < P.cellsOf f.type := by simpa using h3
  have hne : ¬ P.cellsOf f.type = 0 := by omega
  refine ⟨.pointer (some ((i.at ad).add f.offset)), ?_, ?_⟩
  · simp only [execOp, h6, Instr.fieldAt, Instr.sureAddr, fieldPlace, Sem.run_bind, run_underlying hu, Result.andThen_ok, hf, Sem.run_pure, run_size' hp, if_neg hne]
  · rw [at_add]
    exact .ptr (by rw [add_block]; exact h5)
theorem partL_ok {t : TypeId} {cs : Array Value} {off : Nat} {K : Value → R} (h : partL P t cs off K = some r) :
    ∃ v, K v = some r ∧ (∀ K2, partL P t cs off K2 = K2 v) ∧ ∀ (m : RMap) (cs' : Array Value) (w : World), VRs m cs.toList cs'.toList → (∀ v ∈ cs.toList, one v = true) →
      ∃ v', (part t cs' off).run P w = .ok v' w ∧ VR m v v' := by
  unfold partL at h
  rw [cond_iff] at h
  obtain ⟨h0, h⟩ := h
  obtain ⟨d, hu⟩ := Option.isSome_iff_exists.1 h0
  cases ha : isAggT P t with
  | true =>
    simp only [ha, hif_true, cond_true] at h
    refine ⟨_, h, fun K2 => by simp only [partL, h0, ha, hif_true, cond_true], fun m cs' w hv hone => ?_⟩
    refine ⟨.agg (cs'.extract off (off + P.cellsOf t)), ?_, ?_⟩
    · simp only [part, Sem.run_bind, run_isAgg hu, Result.andThen_ok, ha, if_true, run_size hu, Sem.run_pure]
    · have e : ∀ c : Array Value, Value.agg (c.extract off (off + P.cellsOf t)) = .agg ⟨(c.toList.drop off).take (P.cellsOf t)⟩ := fun c => by
        congr 1
        apply Array.ext'
        simp [List.extract_eq_take_drop]
      rw [e, e]
      exact .agg ((hv.drop off).take _) fun v hv => hone v (List.mem_of_mem_drop (List.mem_of_mem_take hv))
  | false =>
    simp only [ha, hif_false, cond_false, obind_iff] at h
    obtain ⟨v, h1, h2⟩ := h
    obtain ⟨h3, h4⟩ := typed1_same h2
    refine ⟨v, h3, fun K2 => by simp only [partL, h0, ha, hif_true, cond_true, hif_false, cond_false, h1, obind_some, h4], fun m cs' w hv hone => ?_⟩
    obtain ⟨v', h5, h6⟩ := hv.get h1
    have h7 : cs'[off]? = some v' := by simpa using h5
    exact ⟨v', by simp only [part, Sem.run_bind, run_isAgg hu, Result.andThen_ok, ha, Bool.false_eq_true, if_false, h7, Sem.run_pure], h6⟩
theorem lop_field {t : TypeId} {x : Operand} {j : Nat} (ho : o.op = .field t x j) (h : lop P env L o K = some r) : Res P env L o K r := by
  obtain ⟨dst, op, ty, pos, after, guard⟩ := o
  simp only at ho
  subst ho
  simp only [lop, ev_eq, obind_iff] at h
  obtain ⟨v, h1, h2⟩ := h
  split at h2
  case h_2 => cases h2
  rename_i fs cs hu
  split at h2
  case h_2 => cases h2
  rename_i f hf
  obtain ⟨u, h3, h4, h5⟩ := partL_ok h2
  refine .pure _ h3 (fun L2 K2 => by simp only [lop, ev_eq, h1, obind_some, hu, hf, h4]) fun m w a hr he => ?_
  obtain ⟨cs', h6, h7, h8⟩ := (he.eval h1).of_agg
  obtain ⟨v', h9, h10⟩ := h5 m cs' w h7 h8
  exact ⟨v', by simp [execOp, h6, Instr.field, run_underlying hu, hf, Go.asAgg, h9], h10⟩
theorem idx_ok {s : Sl} {i : Int} {esz : Nat} {b : Addr} (h : idx s i esz = some b) : ∃ a, s.a = some a ∧ 0 ≤ i ∧ i < s.n ∧ b = a.add (i.toNat * esz) := by
  unfold idx at h
  split at h
  case h_2 => cases h
  rename_i a ha
  simp only [hif_eq, cond_eq_ite, Bool.and_eq_true, decide_eq_true_eq] at h
  split at h
  case isFalse => cases h
  rename_i hi
  injection h with h
  exact ⟨a, ha, hi.1, hi.2, h.symm⟩
theorem lop_indexAddr {t : TypeId} {x y : Operand} (ho : o.op = .indexAddr t x y) (h : lop P env L o K = some r) : Res P env L o K r := by
  obtain ⟨dst, op, ty, pos, after, guard⟩ := o
  simp only at ho
  subst ho
  simp only [lop, ev_eq, obind_iff] at h
  obtain ⟨v, h1, u, h2, h3⟩ := h
  split at h3
  · rename_i e sa n c k i hu
    rw [cond_iff] at h3
    obtain ⟨h4, h5⟩ := h3
    rw [obind_iff] at h5
    obtain ⟨b, h6, h7⟩ := h5
    refine .pure _ h7 (fun L2 K2 => by simp only [lop, ev_eq, h1, h2, obind_some, hu, h4, h6, hif_true, cond_true]) fun m w a hr he => ?_
    obtain ⟨ad, h8, h9, h10, h11⟩ := idx_ok h6
    simp only at h8 h10
    subst h8
    have hp : 0 < P.cellsOf e := by simpa using h4
    have hx := he.eval h1
    have hy := VR.of_int (he.eval h2)
    have fin : ∀ (j : Info) (c' : Nat), m ad.block = some j → a.eval x = .slice (some (j.at ad)) n c' → ∃ v', (execOp a.eval ⟨dst, .indexAddr t x y, ty, pos, after, guard⟩).run P w = .ok (.value v') w ∧ VR m (.pointer (some b)) v' := fun j c' hj hv => by
      refine ⟨.pointer (some ((j.at ad).add (i.toNat * P.cellsOf e))), ?_, ?_⟩
      · simp only [execOp, hv, hy, Instr.indexAt, asIntOf, Sem.run_bind, run_underlying hu, Result.andThen_ok, Sem.run_pure]
        simp [h9, h10, run_size' hp]
      · rw [at_add, ← h11]
        exact .ptr (by rw [h11, add_block]; exact hj)
    rcases hx.of_slice with ⟨_, j, hj, hv⟩ | ⟨_, j, hj, hv⟩ | ⟨_, hn, _⟩
    · exact fin j _ hj hv
    · exact fin j _ hj hv
    · subst hn; omega
  · rename_i n e ad k i hu
    rw [cond_iff, when_iff, when_iff] at h3
    obtain ⟨h4, h5, h6, h7⟩ := h3
    refine .pure _ h7 (fun L2 K2 => by simp only [lop, ev_eq, h1, h2, obind_some, hu, h4, h5, h6, hif_true, cond_true, when_true]) fun m w a hr he => ?_
    simp only [decide_eq_true_eq] at h5 h6
    have hp : 0 < P.cellsOf e := by simpa using h4
    obtain ⟨j, hj, hv⟩ := (he.eval h1).of_ptr
    have hy := VR.of_int (he.eval h2)
    refine ⟨.pointer (some ((j.at ad).add (i.toNat * P.cellsOf e))), ?_, ?_⟩
    · simp only [execOp, hv, hy, Instr.indexAt, Instr.sureAddr, asIntOf, Sem.run_bind, run_underlying hu, Result.andThen_ok, Sem.run_pure]
      simp [h5, h6, run_size' hp]
    · rw [at_add]
      exact .ptr (by rw [add_block]; exact hj)
  · cases h3
theorem lop_index {t : TypeId} {x y : Operand} (ho : o.op = .index t x y) (h : lop P env L o K = some r) : Res P env L o K r := by
  obtain ⟨dst, op, ty, pos, after, guard⟩ := o
  simp only at ho
  subst ho
  simp only [lop, ev_eq, obind_iff] at h
  obtain ⟨v, h1, u, h2, h3⟩ := h
  split at h3
  · rename_i s k i hu
    rw [obind_iff] at h3
    obtain ⟨b, h4, h5⟩ := h3
    refine .pure _ h5 (fun L2 K2 => by simp only [lop, ev_eq, h1, h2, obind_some, hu, h4]) fun m w a hr he => ?_
    refine ⟨.int .u8 b, ?_, .flat1 rfl⟩
    unfold byteAt at h4
    simp only [hif_eq, cond_eq_ite, decide_eq_true_eq] at h4
    split at h4
    case isFalse => cases h4
    rename_i h0
    obtain ⟨c, hc, rfl⟩ := Option.map_eq_some_iff.1 h4
    simp [execOp, VR.of_string (he.eval h1), VR.of_int (he.eval h2), Instr.index, asIntOf, run_underlying hu, h0, hc]
  · rename_i n e cs k i hu
    rw [when_iff, when_iff] at h3
    obtain ⟨h4, h5, h6⟩ := h3
    obtain ⟨v, h7, h8, h9⟩ := partL_ok h6
    refine .pure _ h7 (fun L2 K2 => by simp only [lop, ev_eq, h1, h2, obind_some, hu, h4, h5, when_true, h8]) fun m w a hr he => ?_
    simp only [decide_eq_true_eq] at h4 h5
    obtain ⟨cs', h10, h11, h12⟩ := (he.eval h1).of_agg
    obtain ⟨v', h13, h14⟩ := h9 m cs' w h11 h12
    refine ⟨v', ?_, h14⟩
    have hd : ∃ d, P.underlying e = some d := by
      unfold partL at h6
      rw [cond_iff] at h6
      exact Option.isSome_iff_exists.1 h6.1
    obtain ⟨d, hd⟩ := hd
    simp only [execOp, h10, VR.of_int (he.eval h2), Instr.index, asIntOf, Sem.run_bind, run_underlying hu, Result.andThen_ok, Sem.run_pure]
    simp [h4, h5, run_size hd, h13]
  · cases h3
end
end Go.Rlm
end

section
namespace Go.Rlm
section
variable {P : Program} {r : LR}
/-- What it is to tell equality rightly. -/
def EqOk (P : Program) (d : Nat) (E : TypeId → Value → Value → (Bool → R) → R) : Prop :=
  ∀ {r : LR} {t : TypeId} {x y : Value} {K : Bool → R}, E t x y K = some r → ∃ b, K b = some r ∧ (∀ K2, E t x y K2 = K2 b) ∧
    ∀ (m : RMap) (x' y' : Value) (w : World) (q : Nat), VR m x x' → VR m y y' → (Op.equalIn (d + q) t x' y').run P w = .ok b w
theorem eqFields_ok {d : Nat} {E : TypeId → Value → Value → (Bool → R) → R} (hE : EqOk P d E) {xs ys : Array Value} : ∀ {fs : List Field} {K : Bool → R}, eqFields P E xs ys fs K = some r →
    ∃ b, K b = some r ∧ (∀ K2, eqFields P E xs ys fs K2 = K2 b) ∧ ∀ (m : RMap) (xs' ys' : Array Value) (w : World) (q : Nat), VRs m xs.toList xs'.toList → VRs m ys.toList ys'.toList → (∀ v ∈ xs.toList, one v = true) → (∀ v ∈ ys.toList, one v = true) →
      (do
        for f in fs do
          if f.name ≠ "_" then
            if !(← Op.equalIn (d + q) f.type (← part f.type xs' f.offset) (← part f.type ys' f.offset)) then return false
        pure true : Sem Bool).run P w = .ok b w := by
  intro fs
  induction fs with
  | nil => intro K h; exact ⟨true, h, fun _ => rfl, fun m xs' ys' w q _ _ _ _ => by simp⟩
  | cons f fs ih =>
    intro K h
    simp only [eqFields] at h
    cases hn : (f.name == "_") with
    | true => rw [hn] at h; cases h
    | false =>
      rw [hn, hif_false] at h
      obtain ⟨u, h1, h2, h3⟩ := partL_ok h
      obtain ⟨v, h4, h5, h6⟩ := partL_ok h1
      obtain ⟨b, h7, h8, h9⟩ := hE h4
      obtain ⟨c, k1, k2, k3⟩ := ih h7
      have hne : f.name ≠ "_" := fun e => by rw [e] at hn; simp at hn
      refine ⟨b && c, k1, fun K2 => by simp only [eqFields, hn, hif_false, h2, h5, h8, k2], fun m xs' ys' w q hx hy ox oy => ?_⟩
      obtain ⟨u', g1, g2⟩ := h3 m xs' w hx ox
      obtain ⟨v', g3, g4⟩ := h6 m ys' w hy oy
      have g5 := h9 m u' v' w q g2 g4
      have g6 := k3 m xs' ys' w q hx hy ox oy
      simp only [List.forIn_cons] at g6 ⊢
      cases b with
      | false => simp [hne, g1, g3, g5]
      | true =>
        simp [hne, g1, g3, g5] at g6 ⊢
        exact g6
theorem eqL_ok : ∀ d, EqOk P d (eqL P d)
  | 0 => fun h => by cases h
  | d + 1 => by
    intro h
    rename_i r t x y K
    unfold eqL at h
    split at h
    · rename_i k k1 a k2 b hu
      rw [cond_iff] at h
      obtain ⟨hk, h⟩ := h
      have hk := of_decide_eq_true hk
      subst hk
      refine ⟨_, h, fun K2 => by simp [eqL, hu], fun m x' y' w q hx hy => ?_⟩
      rw [hx.of_int, hy.of_int, show d + 1 + q = d + q + 1 by omega]
      simp [Op.equalIn, run_underlying hu]
    · rename_i a b hu
      refine ⟨_, h, fun K2 => by simp [eqL, hu], fun m x' y' w q hx hy => ?_⟩
      rw [hx.of_bool, hy.of_bool, show d + 1 + q = d + q + 1 by omega]
      simp [Op.equalIn, run_underlying hu]
    · rename_i a b hu
      refine ⟨_, h, fun K2 => by simp [eqL, hu], fun m x' y' w q hx hy => ?_⟩
      rw [hx.of_string, hy.of_string, show d + 1 + q = d + q + 1 by omega]
      simp [Op.equalIn, run_underlying hu]
    · rename_i fs xs ys hu
      cases hst : P.stoodInHeld t with
      | true => rw [hst] at h; cases h
      | false =>
        rw [hst, hif_false] at h
        obtain ⟨b, h1, h2, h3⟩ := eqFields_ok (eqL_ok d) h
        refine ⟨b, h1, fun K2 => by simp only [eqL, hu, hst, hif_false, h2], fun m x' y' w q hx hy => ?_⟩
        obtain ⟨xs', rfl, g1, g2⟩ := hx.of_agg
        obtain ⟨ys', rfl, g3, g4⟩ := hy.of_agg
        have := h3 m xs' ys' w q g1 g3 g2 g4
        rw [show d + 1 + q = d + q + 1 by omega]
        simp only [Op.equalIn, Sem.run_bind, run_underlying hu, Result.andThen_ok]
        simp [hst] at this ⊢
        exact this
    · cases h
theorem equalIn_ifaceNil (d : Nat) (t ty : TypeId) (v : Value) (ms : _) (hu : P.underlying t = some (.interface ms)) (w : World) : (Op.equalIn (d + 1) t (.iface ty v) .nilIface).run P w = .ok false w := by
  simp [Op.equalIn, run_underlying hu]
theorem equalIn_nilNil (d : Nat) (t : TypeId) (ms : _) (hu : P.underlying t = some (.interface ms)) (w : World) : (Op.equalIn (d + 1) t .nilIface .nilIface).run P w = .ok true w := by
  simp [Op.equalIn, run_underlying hu]
theorem equal_ifaceNil (t ty : TypeId) (v : Value) (ms : _) (hu : P.underlying t = some (.interface ms)) (w : World) : (Op.equal t (.iface ty v) .nilIface).run P w = .ok false w := equalIn_ifaceNil 9999 t ty v ms hu w
theorem equal_nilNil (t : TypeId) (ms : _) (hu : P.underlying t = some (.interface ms)) (w : World) : (Op.equal t .nilIface .nilIface).run P w = .ok true w := equalIn_nilNil 9999 t ms hu w
theorem lbin2_ok {op : BinOp} {t : TypeId} {x y : Operand} {v u : Value} {K : Value → R} (h : lbin2 P op t x y v u K = some r) :
    ∃ z, K z = some r ∧ (∀ K2, lbin2 P op t x y v u K2 = K2 z) ∧ ∀ (m : RMap) (v' u' : Value) (w : World), VR m v v' → VR m u u' → (do eqGuard op t x y v' u'; binOp op t v' u').run P w = .ok z w ∧ flat1 z = true := by
  unfold lbin2 at h
  split at h
  · rename_i xs ys
    split at h
    · cases hg : P.eqGuardType P.depth t with
      | true => rw [hg] at h; cases h
      | false =>
        rw [hg, hif_false] at h
        obtain ⟨b, h1, h2, h3⟩ := eqL_ok 20 h
        refine ⟨_, h1, fun K2 => by simp only [lbin2, hg, hif_false, h2], fun m v' u' w hx hy => ⟨?_, rfl⟩⟩
        have := h3 m v' u' w 9980 hx hy
        obtain ⟨xs', rfl, _, _⟩ := hx.of_agg
        obtain ⟨ys', rfl, _, _⟩ := hy.of_agg
        have e : (Op.equal t (.agg xs') (.agg ys')).run P w = .ok b w := this
        simp [eqGuard, binOp, hg, e]
    · cases hg : P.eqGuardType P.depth t with
      | true => rw [hg] at h; cases h
      | false =>
        rw [hg, hif_false] at h
        obtain ⟨b, h1, h2, h3⟩ := eqL_ok 20 h
        refine ⟨_, h1, fun K2 => by simp only [lbin2, hg, hif_false, h2], fun m v' u' w hx hy => ⟨?_, rfl⟩⟩
        have := h3 m v' u' w 9980 hx hy
        obtain ⟨xs', rfl, _, _⟩ := hx.of_agg
        obtain ⟨ys', rfl, _, _⟩ := hy.of_agg
        have e : (Op.equal t (.agg xs') (.agg ys')).run P w = .ok b w := this
        simp [eqGuard, binOp, hg, e]
    · cases h
  · split at h
    · rename_i hu
      refine ⟨_, h, fun K2 => by simp [lbin2, hu], fun m v' u' w hx hy => ⟨?_, rfl⟩⟩
      obtain ⟨z, rfl, _⟩ := hx.of_iface
      obtain rfl : u' = .nilIface := by cases hy; rfl
      simp [eqGuard, binOp, equal_ifaceNil _ _ _ _ hu]
    · rename_i hu
      refine ⟨_, h, fun K2 => by simp [lbin2, hu], fun m v' u' w hx hy => ⟨?_, rfl⟩⟩
      obtain ⟨z, rfl, _⟩ := hx.of_iface
      obtain rfl : u' = .nilIface := by cases hy; rfl
      simp [eqGuard, binOp, equal_ifaceNil _ _ _ _ hu]
    · cases h
  · split at h
    · rename_i hu
      rw [cond_iff] at h
      obtain ⟨hc, h⟩ := h
      refine ⟨_, h, fun K2 => by simp [lbin2, hu, hc], fun m v' u' w hx hy => ⟨?_, rfl⟩⟩
      obtain rfl : v' = .nilIface := by cases hx; rfl
      obtain rfl : u' = .nilIface := by cases hy; rfl
      cases y <;> simp [isConst] at hc
      simp [eqGuard, binOp, equal_nilNil _ _ hu]
    · rename_i hu
      rw [cond_iff] at h
      obtain ⟨hc, h⟩ := h
      refine ⟨_, h, fun K2 => by simp [lbin2, hu, hc], fun m v' u' w hx hy => ⟨?_, rfl⟩⟩
      obtain rfl : v' = .nilIface := by cases hx; rfl
      obtain rfl : u' = .nilIface := by cases hy; rfl
      cases y <;> simp [isConst] at hc
      simp [eqGuard, binOp, equal_nilNil _ _ hu]
    · cases h
  · rename_i n1 n2 n3
    obtain ⟨z, h1, h2, h3⟩ := lbin_ok h
    refine ⟨z, h1, fun K2 => ?_, fun m v' u' w hx hy => h3 m v' u' x y w hx hy⟩
    rw [← h2 K2]
    unfold lbin2
    split
    · exact absurd rfl (n1 _ _ rfl)
    · exact absurd rfl (n2 _ _ rfl)
    · exact absurd rfl (n3 rfl)
    · rfl
end
section
variable {P : Program} {env : Env} {L : LHeap} {K : Value → LHeap → R} {r : LR} {o : Oper}
theorem lop_binOp {bop : BinOp} {t yt : TypeId} {x y : Operand} (ho : o.op = .binOp bop t x y yt) (h : lop P env L o K = some r) : Res P env L o K r := by
  obtain ⟨dst, op, ty, pos, after, guard⟩ := o
  simp only at ho
  subst ho
  simp only [lop, ev_eq, obind_iff] at h
  obtain ⟨v, h1, u, h2, h3⟩ := h
  obtain ⟨z, h4, h5, h6⟩ := lbin2_ok h3
  have h5' := h5
  refine .pure z h4 (fun L2 K2 => by simp only [lop, ev_eq, h1, h2, obind_some, h5']) fun m w a _ he => ?_
  obtain ⟨h7, h8⟩ := h6 m _ _ w (he.eval h1) (he.eval h2)
  refine ⟨z, ?_, .flat1 h8⟩
  have e : (execOp a.eval ⟨dst, .binOp bop t x y yt, ty, pos, after, guard⟩) = (do let v ← (do eqGuard bop t x y (a.eval x) (a.eval y); binOp bop t (a.eval x) (a.eval y)); pure (.value v)) := rfl
  rw [e, Sem.run_bind, h7]
  rfl
end
end Go.Rlm
end

section
namespace Go.Rlm
section
variable {P : Program} {env : Env} {L : LHeap} {o : Oper} {r : LR} {K : Value → LHeap → R}
theorem bound_some {i : Int} {d y m : Nat} (h : bound (some i) d y = some m) : 0 ≤ i ∧ i ≤ y ∧ m = i.toNat := by
  simp only [bound, hif_eq, cond_eq_ite, Bool.and_eq_true, decide_eq_true_eq] at h
  split at h
  case isFalse => cases h
  rename_i hi
  injection h with h
  exact ⟨hi.1, hi.2, h.symm⟩
theorem bound_none {d y m : Nat} (h : bound none d y = some m) : d ≤ y ∧ m = d := by
  simp only [bound, hif_eq, cond_eq_ite] at h
  split at h
  case isFalse => cases h
  rename_i hi
  injection h with h
  exact ⟨by simpa using hi, h.symm⟩
theorem bound_le {x : Option Int} {d y m : Nat} (h : bound x d y = some m) : m ≤ y := by
  cases x with
  | none => obtain ⟨h1, h2⟩ := bound_none h; omega
  | some i => obtain ⟨h1, h2, h3⟩ := bound_some h; omega
/-- An optional operand that is a number, and the model's. -/
def IntOp (x : Option Int) (v : Option Value) : Prop := (x = none ∧ v = none) ∨ ∃ k i, x = some i ∧ v = some (.int k i)
theorem evo_ok {x : Option Operand} {K : Option Int → R} (h : evo env x K = some r) : ∃ i, K i = some r ∧ (∀ K2, evo env x K2 = K2 i) ∧ ∀ (m : RMap) (a : Act), ER m env a.tmps → IntOp i (x.map a.eval) := by
  cases x with
  | none => exact ⟨none, h, fun _ => rfl, fun _ _ _ => .inl ⟨rfl, rfl⟩⟩
  | some x =>
    simp only [evo, ev_eq, obind_iff] at h
    obtain ⟨v, h1, h2⟩ := h
    split at h2
    case h_2 => cases h2
    rename_i k n
    exact ⟨some n, h2, fun K2 => by simp only [evo, ev_eq, h1, obind_some], fun m a he => .inr ⟨k, n, rfl, by simp [VR.of_int (he.eval h1)]⟩⟩
theorem run_bound {x : Option Int} {d y m : Nat} {v : Value} {k : IntKind} {i : Int} (hx : x = some i) (hv : v = .int k i) (h : bound x d y = some m) (c : BoundsCode) (w : World) :
    (Instr.sliceBound v y c).run P w = .ok m w := by
  subst hx; subst hv
  obtain ⟨h1, h2, h3⟩ := bound_some h
  rw [run_sliceBound w k i y c h1 h2, h3]
/-- The bounds of s[lo:hi:mx]. -/
theorem run_bounds {isS : Bool} {len cap : Nat} {lo hi mx : Option Int} {vlo vhi vmx : Option Value} (hlo : IntOp lo vlo) (hhi : IntOp hi vhi) (hmx : IntOp mx vmx) {l h m d e : Nat}
    (h1 : mx = none ∧ m = cap ∨ bound mx d cap = some m ∧ mx.isSome = true) (h2 : hi = none ∧ mx = none ∧ h = len ∨ bound hi e m = some h ∧ hi.isSome = true) (h3 : bound lo 0 h = some l) (w : World) :
    (Instr.sliceBounds isS len cap vlo vhi vmx).run P w = .ok (l, h, m) w := by
  have sb : ∀ (k : IntKind) (i : Int) (d y q : Nat) (c : BoundsCode), bound (some i) d y = some q → (Instr.sliceBound (.int k i) y c).run P w = .ok q w := fun k i d y q c hq => run_bound rfl rfl hq c w
  have h1' : (mx = none ∧ vmx = none ∧ m = cap) ∨ ∃ k i, mx = some i ∧ vmx = some (.int k i) ∧ bound (some i) d cap = some m := by
    rcases h1 with ⟨rfl, rfl⟩ | ⟨h1, h4⟩
    · rcases hmx with ⟨_, rfl⟩ | ⟨_, _, h5, _⟩
      · exact .inl ⟨rfl, rfl, rfl⟩
      · cases h5
    · rcases hmx with ⟨rfl, _⟩ | ⟨k, i, rfl, rfl⟩
      · cases h4
      · exact .inr ⟨k, i, rfl, rfl, h1⟩
  have h2' : (hi = none ∧ vhi = none ∧ mx = none ∧ h = len) ∨ ∃ k i, hi = some i ∧ vhi = some (.int k i) ∧ bound (some i) e m = some h := by
    rcases h2 with ⟨rfl, h5, h6⟩ | ⟨h2, h4⟩
    · rcases hhi with ⟨_, rfl⟩ | ⟨_, _, h7, _⟩
      · exact .inl ⟨rfl, rfl, h5, h6⟩
      · cases h7
    · rcases hhi with ⟨rfl, _⟩ | ⟨k, i, rfl, rfl⟩
      · cases h4
      · exact .inr ⟨k, i, rfl, rfl, h2⟩
  have h3' : (lo = none ∧ vlo = none ∧ l = 0) ∨ ∃ k i, lo = some i ∧ vlo = some (.int k i) ∧ bound (some i) 0 h = some l := by
    rcases hlo with ⟨rfl, rfl⟩ | ⟨k, i, rfl, rfl⟩
    · exact .inl ⟨rfl, rfl, (bound_none h3).2⟩
    · exact .inr ⟨k, i, rfl, rfl, h3⟩
  clear h1 h2 h3 hlo hhi hmx
  rcases h1' with ⟨rfl, rfl, rfl⟩ | ⟨k1, i1, rfl, rfl, q1⟩ <;> rcases h2' with ⟨rfl, rfl, g1, rfl⟩ | ⟨k2, i2, rfl, rfl, q2⟩ <;> rcases h3' with ⟨rfl, rfl, rfl⟩ | ⟨k3, i3, rfl, rfl, q3⟩ <;> try (cases g1; done)
  · simp [Instr.sliceBounds]
  · simp [Instr.sliceBounds, sb _ _ _ _ _ _ q3]
  · simp [Instr.sliceBounds, sb _ _ _ _ _ _ q2]
  · simp [Instr.sliceBounds, sb _ _ _ _ _ _ q2, sb _ _ _ _ _ _ q3]
  · simp [Instr.sliceBounds, sb _ _ _ _ _ _ q1, sb _ _ _ _ _ _ q2]
  · simp [Instr.sliceBounds, sb _ _ _ _ _ _ q1, sb _ _ _ _ _ _ q2, sb _ _ _ _ _ _ q3]
theorem subS_ok {s t : ByteArray} {lo hi : Option Int} (h : subS s lo hi = some t) : ∃ hh l, (hi = none ∧ hh = s.size ∨ bound hi s.size s.size = some hh ∧ hi.isSome = true) ∧ bound lo 0 hh = some l ∧ t = s.extract l hh := by
  unfold subS at h
  simp only [Option.bind_eq_bind, Option.bind_eq_some_iff] at h
  obtain ⟨hh, h1, l, h2, h3⟩ := h
  injection h3 with h3
  refine ⟨hh, l, ?_, h2, h3.symm⟩
  cases hi with
  | none => exact .inl ⟨rfl, (bound_none h1).2⟩
  | some i => exact .inr ⟨h1, rfl⟩
theorem blen_ok {m : RMap} {w : World} (hr : Rep P m L w) {a : Addr} {esz e : Nat} (h : blen L a esz = some e) {i : Info} (hi : m a.block = some i) :
    a.spot = none ∧ i.base = 0 ∧ i.esz = esz ∧ 0 < esz ∧ e ≤ (i.top - a.off) / i.esz ∧
      ∃ cs el cp fz, L[a.block]? = some (.cells cs el false esz) ∧ e = (cs.length - a.off) / esz ∧ esz = P.cellsOf el ∧ i.top = cp.size ∧ w.heap[i.blk]? = some (.cells cp el fz) := by
  unfold blen at h
  split at h
  · cases h
  rename_i hs
  split at h
  case h_2 => cases h
  rename_i cs el ro sp hL
  simp only [hif_eq, cond_eq_ite, Bool.and_eq_true] at h
  split at h
  case isFalse => cases h
  rename_i hb
  injection h with h
  obtain ⟨hb1, hb2⟩ := hb
  have hb1 := Nat.eq_of_beq_eq_true hb1
  have hb2 : 0 < esz := by simpa using hb2
  subst hb1
  obtain ⟨j, h1, h2⟩ := hr.row _ _ _ _ _ hL
  rw [hi] at h1; injection h1 with h1; subst h1
  obtain ⟨cp, e', fz, h3, h4, h5, h6⟩ := h2.there
  obtain ⟨rfl, h7, h8, h9⟩ := h6 (by omega)
  obtain ⟨h10, rfl, _⟩ := h5 rfl
  refine ⟨hs, h10, h8, hb2, ?_, cs, e', cp, fz, hL, h.symm, h9, h7, h3⟩
  rw [← h, h8]
  apply Nat.div_le_div_right
  have : cs.length ≤ cp.size := by
    rcases Nat.eq_zero_or_pos cs.length with h0 | h0
    · omega
    · obtain ⟨v', h11, _⟩ := h4 (cs.length - 1) cs[cs.length - 1] (by simp)
      have := (Array.getElem?_eq_some_iff.1 h11).1
      omega
  omega
theorem VR.sl {m : RMap} {sa : Option Addr} {n c : Nat} {x' : Value} (h : VR m (.slice sa n c) x') (hc : c < OPEN) : ∃ sa', x' = .slice sa' n c ∧ ((sa = none ∧ sa' = none) ∨ ∃ a i, sa = some a ∧ m a.block = some i ∧ sa' = some (i.at a)) := by
  cases sa with
  | none => exact ⟨none, h.of_nilSlice, .inl ⟨rfl, rfl⟩⟩
  | some a =>
    rcases h.of_slice with ⟨_, i, hi, hv⟩ | ⟨h1, _⟩ | ⟨h1, _⟩
    · exact ⟨_, hv, .inr ⟨a, i, rfl, hi, rfl⟩⟩
    · omega
    · rw [h1] at hc; unfold LOOSE OPEN at hc; omega
theorem cut_ok {m : RMap} {w : World} (hr : Rep P m L w) {t e : TypeId} (hu : P.underlying t = some (.slice e)) (hp : 0 < P.cellsOf e) {s s' : Sl} {lo hi mx : Option Int} {vlo vhi vmx : Option Value}
    (hlo : IntOp lo vlo) (hhi : IntOp hi vhi) (hmx : IntOp mx vmx) (h : cut L s lo hi mx (P.cellsOf e) = some s') {x' : Value} (hx : VR m (.slice s.a s.n s.c) x') :
    ∃ v', (Instr.slice t x' vlo vhi vmx).run P w = .ok v' w ∧ VR m (.slice s'.a s'.n s'.c) v' := by
  have run : ∀ (a' : Option Addr) (n cap l h m' : Nat), (Instr.sliceBounds true n cap vlo vhi vmx).run P w = .ok (l, h, m') w →
      (Instr.slice t (.slice a' n cap) vlo vhi vmx).run P w = .ok (.slice (if m' = l then a' else a'.map (·.add (l * P.cellsOf e))) (h - l) (m' - l)) w := fun a' n cap l h m' hb => by
    simp only [Instr.slice, Sem.run_bind, run_underlying hu, Result.andThen_ok, hb, run_size' hp, Sem.run_pure]
  unfold cut at h
  simp only [hif_eq, cond_eq_ite] at h
  split at h
  · rename_i hc
    have hc : s.c < OPEN := by simpa using hc
    simp only [Option.bind_eq_bind, Option.bind_eq_some_iff] at h
    obtain ⟨mm, h1, hh, h2, l, h3, h4⟩ := h
    injection h4 with h4
    subst h4
    obtain ⟨sa', hv, hsa⟩ := hx.sl hc
    have hmm := bound_le h1
    have hb : (Instr.sliceBounds true s.n s.c vlo vhi vmx).run P w = .ok (l, hh, mm) w := by
      refine run_bounds hlo hhi hmx (d := s.c) (e := if mx.isSome = true then mm + 1 else s.n) ?_ ?_ h3 w
      · cases mx with
        | none => exact .inl ⟨rfl, (bound_none h1).2⟩
        | some i => exact .inr ⟨h1, rfl⟩
      · cases hi with
        | some i => exact .inr ⟨h2, rfl⟩
        | none =>
          obtain ⟨h5, h6⟩ := bound_none h2
          cases mx with
          | none => exact .inl ⟨rfl, rfl, by simpa using h6⟩
          | some i => simp at h5; omega
    refine ⟨_, by rw [hv]; exact run sa' s.n s.c l hh mm hb, ?_⟩
    · simp only
      rcases hsa with ⟨h5, h6⟩ | ⟨a, i, h5, h6, h7⟩
      · rw [h5, h6]; simp; exact .flat1 rfl
      · rw [h5, h7]
        split
        · exact .slice h6 (by omega)
        · simp only [Option.map_some, at_add]
          exact .slice (by rw [add_block]; exact h6) (by omega)
  · split at h
    case isFalse =>
      split at h
      case isFalse => cases h
      rename_i hc
      have hc := Nat.eq_of_beq_eq_true hc
      split at h
      · cases h
      rename_i a ha
      rw [ha, hc] at hx
      rcases hx.of_slice with ⟨h0, _⟩ | ⟨h0, _⟩ | ⟨_, hn, a', c', hv⟩
      · unfold OPEN LOOSE at h0; omega
      · unfold OPEN LOOSE at h0; omega
      rw [hv]
      split at h
      case isFalse => cases h
      rename_i hmn
      obtain rfl : mx = none := by cases mx <;> simp_all
      simp only [Option.bind_eq_bind, Option.bind_eq_some_iff] at h
      obtain ⟨hh, h3, l, h4, h5⟩ := h
      injection h5 with h5
      subst h5
      have hle := bound_le h3
      have hle2 := bound_le h4
      have rb : (Instr.sliceBounds true 0 c' vlo vhi vmx).run P w = .ok (l, hh, c') w := run_bounds hlo hhi hmx (d := 0) (e := 0) (.inl ⟨rfl, rfl⟩) (by
        cases hi with
        | none => exact .inl ⟨rfl, rfl, (bound_none h3).2⟩
        | some j =>
          obtain ⟨q1, q2, q3⟩ := bound_some h3
          refine .inr ⟨?_, rfl⟩
          simp only [bound]
          rw [show (decide (0 ≤ j) && decide (j ≤ (c' : Int))) = true by simp; omega]
          simp [q3]) h4 w
      refine ⟨_, run (some a') 0 c' l hh c' rb, ?_⟩
      have : hh - l = 0 := by omega
      simp only [this]
      split
      · exact .loose
      · simp only [Option.map_some]; exact .loose
    rename_i hc
    have hc := Nat.eq_of_beq_eq_true hc
    split at h
    · cases h
    rename_i a ha
    rw [ha, hc] at hx
    rcases hx.of_slice with ⟨h0, _⟩ | ⟨_, i, hi2, hv⟩ | ⟨h0, _⟩
    · omega
    case inr.inr => unfold OPEN LOOSE at h0; omega
    rw [hv]
    generalize hC : (i.top - a.off) / i.esz = C at *
    simp only [Option.bind_eq_bind, Option.bind_eq_some_iff] at h
    obtain ⟨ex, h1, h⟩ := h
    obtain ⟨g1, g2, g3, g4, g5, _⟩ := blen_ok hr h1 hi2
    rw [hC] at g5
    have capEq : ∀ l, l ≤ C → C - l = (i.top - (a.off + l * P.cellsOf e)) / i.esz := fun l hl => by
      have hle : l * P.cellsOf e ≤ i.top - a.off := by
        have h7 : C * i.esz ≤ i.top - a.off := by rw [← hC]; exact Nat.div_mul_le_self _ _
        have h8 : l * P.cellsOf e ≤ C * P.cellsOf e := Nat.mul_le_mul_right _ hl
        rw [g3] at h7
        omega
      have h9 := Nat.sub_mul_div (i.top - a.off) i.esz l
      rw [hC, g3, Nat.mul_comm] at h9
      rw [← h9, g3]
      congr 1
      omega
    split at h
    · rename_i x
      simp only [Option.bind_eq_bind, Option.bind_eq_some_iff] at h
      obtain ⟨mm, h2, hh, h3, l, h4, h5⟩ := h
      split at h5
      case isFalse => cases h5
      rename_i hmO
      injection h5 with h5
      subst h5
      have hle := bound_le h2
      obtain ⟨q1, q2, q3⟩ := bound_some h2
      have h2' : bound (some x) 0 C = some mm := by
        simp only [bound]
        rw [show (decide (0 ≤ x) && decide (x ≤ (C : Int))) = true by simp; omega]
        simp [q3]
      have hb : (Instr.sliceBounds true s.n C vlo vhi vmx).run P w = .ok (l, hh, mm) w := by
        refine run_bounds hlo hhi hmx (d := 0) (e := mm + 1) (.inr ⟨h2', rfl⟩) ?_ h4 w
        cases hi with
        | some j => exact .inr ⟨h3, rfl⟩
        | none => have := (bound_none h3).1; omega
      refine ⟨_, run _ s.n C l hh mm hb, ?_⟩
      · simp only
        split
        · exact .slice hi2 (by omega)
        · simp only [Option.map_some, at_add]
          exact .slice (by rw [add_block]; exact hi2) (by omega)
    · simp only [Option.bind_eq_bind, Option.bind_eq_some_iff] at h
      obtain ⟨hh, h3, l, h4, h5⟩ := h
      have hle := bound_le h3
      have hle2 := bound_le h4
      have rb : (Instr.sliceBounds true s.n C vlo vhi vmx).run P w = .ok (l, hh, C) w := run_bounds hlo hhi hmx (d := 0) (e := s.n) (.inl ⟨rfl, rfl⟩) (by
        cases hi with
        | none => exact .inl ⟨rfl, rfl, (bound_none h3).2⟩
        | some j =>
          obtain ⟨q1, q2, q3⟩ := bound_some h3
          refine .inr ⟨?_, rfl⟩
          simp only [bound]
          rw [show (decide (0 ≤ j) && decide (j ≤ (C : Int))) = true by simp; omega]
          simp [q3]) h4 w
      refine ⟨_, run _ s.n C l hh C rb, ?_⟩
      split at h5
      · rename_i hl
        subst hl
        injection h5 with h5
        subst h5
        simp only [Nat.zero_mul, Nat.sub_zero, Option.map_some]
        have : (if C = 0 then some (i.at a) else some ((i.at a).add 0)) = some (i.at a) := by split <;> simp [Addr.add]
        rw [this, ← hC]
        exact .opn hi2
      · split at h5
        · rename_i hl0 hl
          injection h5 with h5
          subst h5
          simp only [Option.map_some]
          rw [if_neg (by omega), capEq l (by omega), at_add]
          have hoff : (a.add (l * P.cellsOf e)).off = a.off + l * P.cellsOf e := by unfold Addr.add; split <;> simp_all
          rw [← hoff]
          exact .opn (by rw [add_block]; exact hi2)
        · rename_i hl0 hl
          injection h5 with h5
          subst h5
          have : hh - l = 0 := by omega
          simp only [this]
          split
          · exact .loose
          · simp only [Option.map_some]; exact .loose
theorem lop_slice {t : TypeId} {x : Operand} {lo hi mx : Option Operand} (ho : o.op = .slice t x lo hi mx) (h : lop P env L o K = some r) : Res P env L o K r := by
  obtain ⟨dst, op, ty, pos, after, guard⟩ := o
  simp only at ho
  subst ho
  simp only [lop, ev_eq] at h
  rw [obind_iff] at h
  obtain ⟨v, h1, ha⟩ := h
  obtain ⟨ilo, hb, u1, p1⟩ := evo_ok ha
  clear ha
  obtain ⟨ihi, hc, u2, p2⟩ := evo_ok hb
  clear hb
  obtain ⟨imx, h, u3, p3⟩ := evo_ok hc
  clear hc
  have unf : ∀ L2 K2, lop P env L2 ⟨dst, .slice t x lo hi mx, ty, pos, after, guard⟩ K2 = lslice P t v ilo ihi imx L2 fun r => K2 r L2 := fun L2 K2 => by
    simp only [lop, ev_eq, h1, obind_some, u1, u2, u3]
  unfold lslice at h
  split at h
  · rename_i s hu
    split at h
    case h_2 => cases h
    rw [obind_iff] at h
    obtain ⟨q, h2, h3⟩ := h
    refine .pure _ h3 (fun L2 K2 => by rw [unf]; simp only [lslice, hu, h2, obind_some]) fun m w a hr he => ⟨_, ?_, .flat1 rfl⟩
    obtain ⟨hh, l, h4, h5, rfl⟩ := subS_ok h2
    have h6 := p3 m a he
    have hnone : mx.map a.eval = none := by rcases h6 with ⟨_, h7⟩ | ⟨_, _, h7, _⟩ <;> first | exact h7 | cases h7
    have hb : (Instr.sliceBounds false s.size s.size (lo.map a.eval) (hi.map a.eval) none).run P w = .ok (l, hh, s.size) w :=
      run_bounds (p1 m a he) (p2 m a he) (.inl ⟨rfl, rfl⟩) (d := 0) (e := s.size) (.inl ⟨rfl, rfl⟩) (by
        rcases h4 with ⟨g1, g2⟩ | ⟨g1, g2⟩
        · exact .inl ⟨g1, rfl, g2⟩
        · exact .inr ⟨g1, g2⟩) h5 w
    simp only [execOp, hnone, VR.of_string (he.eval h1), Instr.sliceAt, Instr.slice, Sem.run_bind, run_underlying hu, Result.andThen_ok]
    simp [hb]
  · rename_i e sa n c hu
    rw [cond_iff] at h
    obtain ⟨hp, h⟩ := h
    rw [obind_iff] at h
    obtain ⟨q, h2, h3⟩ := h
    refine .read _ (by simp [kindOf, hu]) h3 (fun K2 => by rw [unf]; simp only [lslice, hu, hp, h2, obind_some, hif_true, cond_true]) fun m w a hr he => ?_
    obtain ⟨v', h4, h5⟩ := cut_ok hr hu (by simpa using hp) (p1 m a he) (p2 m a he) (p3 m a he) h2 (he.eval h1)
    refine ⟨v', ?_, h5⟩
    simp only [execOp, Instr.sliceAt, Sem.run_bind, run_underlying hu, Result.andThen_ok, h4, Sem.run_pure]
  · rename_i n e ad hu
    rw [cond_iff, Bool.and_eq_true] at h
    obtain ⟨⟨hp, hn⟩, h⟩ := h
    rw [obind_iff] at h
    obtain ⟨q, h2, h3⟩ := h
    refine .read _ (by simp [kindOf, hu]) h3 (fun K2 => by rw [unf]; simp only [lslice, hu, hp, hn, h2, obind_some, hif_true, cond_true, Bool.and_self]) fun m w a hr he => ?_
    obtain ⟨i, hi1, hv⟩ := (he.eval h1).of_ptr
    unfold cut at h2
    simp only [hif_eq, cond_eq_ite] at h2
    split at h2
    case isFalse =>
      rename_i hO
      rw [hn] at hO
      exact absurd rfl hO
    rename_i hc
    have hc : n < OPEN := by simpa using hc
    simp only [Option.bind_eq_bind, Option.bind_eq_some_iff] at h2
    obtain ⟨mm, g1, hh, g2, l, g3, g4⟩ := h2
    injection g4 with g4
    subst g4
    have hmm := bound_le g1
    have hb : (Instr.sliceBounds false n n (lo.map a.eval) (hi.map a.eval) (mx.map a.eval)).run P w = .ok (l, hh, mm) w :=
      run_bounds (p1 m a he) (p2 m a he) (p3 m a he) (d := n) (e := if imx.isSome = true then mm + 1 else n) (by
        cases imx with
        | none => exact .inl ⟨rfl, (bound_none g1).2⟩
        | some i => exact .inr ⟨g1, rfl⟩) (by
        cases ihi with
        | some i => exact .inr ⟨g2, rfl⟩
        | none =>
          obtain ⟨h5, h6⟩ := bound_none g2
          cases imx with
          | none => exact .inl ⟨rfl, rfl, by simpa using h6⟩
          | some i => simp at h5; omega) g3 w
    refine ⟨.slice (some (if mm = l then i.at ad else (i.at ad).add (l * P.cellsOf e))) (hh - l) (mm - l), ?_, ?_⟩
    · simp only [execOp, hv, Instr.sliceAt, Instr.sureAddr, Sem.run_bind, run_underlying hu, Result.andThen_ok, Sem.run_pure, hb, run_size' (show 0 < P.cellsOf e by simpa using hp)]
    · simp only [Option.map_some]
      split
      · exact .slice hi1 (by omega)
      · rw [at_add]
        exact .slice (by rw [add_block]; exact hi1) (by omega)
  · cases h
end
end Go.Rlm
end

section
namespace Go.Rlm
section
variable {P : Program} {env : Env} {L : LHeap} {o : Oper} {r : LR} {K : Value → LHeap → R}
theorem zeroOf_zero {t : TypeId} {z : List Value} (h : zeroOf P t = some z) : ∃ zv i, P.info? t = some i ∧ i.zero = some zv ∧ zv.cells.toList = z := by
  obtain ⟨zv, h1, h2, _⟩ := zeroOf_ok h
  have := congrFun h1 default
  cases hi : P.info? t with
  | none => simp [zeroValue, typeInfo, hi] at this
  | some i =>
    cases hz : i.zero with
    | none => simp [zeroValue, typeInfo, hi, hz] at this
    | some z' =>
      simp [zeroValue, typeInfo, hi, hz] at this
      exact ⟨z', i, rfl, hz, by rw [this]; exact h2⟩
theorem lop_makeSlice {t : TypeId} {x y : Operand} (ho : o.op = .makeSlice t x y) (h : lop P env L o K = some r) : Res P env L o K r := by
  obtain ⟨dst, op, ty, pos, after, guard⟩ := o
  simp only at ho
  subst ho
  simp only [lop, ev_eq, obind_iff] at h
  obtain ⟨v, h1, u, h2, h3⟩ := h
  split at h3
  case h_2 => cases h3
  rename_i e kn n kc c hu
  split at h3
  case h_2 => cases h3
  rename_i i hi
  rw [obind_iff] at h3
  obtain ⟨z, hz, h3⟩ := h3
  simp only [when_iff] at h3
  obtain ⟨g1, g2, gr, h3⟩ := h3
  refine .write _ _ rfl h3 (fun K2 => by simp only [lop, ev_eq, h1, h2, obind_some, hu, hi, hz, g1, g2, gr, when_true]) fun m w a hr he => ?_
  obtain ⟨zv, i', hi', hz1, hz2⟩ := zeroOf_zero hz
  rw [hi] at hi'; injection hi' with hi'; subst hi'
  obtain ⟨_, _, _, hfl, hon⟩ := zeroOf_ok hz
  have e1 := Nat.eq_of_beq_eq_true g1
  obtain ⟨g3, g4, g5, g6⟩ := room_iff.1 gr
  have g2 : 0 < z.length := by simpa using g2
  have hrun := run_make (P := P) w t e i zv hu hi hz1 kn kc n c g3 g4 (by rw [Int.mul_comm]; omega) (by omega)
  have hcells : madeCells zv.cells (c.toNat * i.size) = ⟨(List.replicate c.toNat z).flatten⟩ := by
    rw [← e1]; exact zero_mod hz2 g2 c.toNat
  have hmem : ∀ v ∈ (List.replicate c.toNat z).flatten, v ∈ z := fun v hv => by
    obtain ⟨l, hl, hv⟩ := List.mem_flatten.1 hv
    rwa [List.eq_of_mem_replicate hl] at hv
  obtain ⟨m', h4, h5, h6⟩ := hr.push0 (cs := (List.replicate c.toNat z).flatten) (c := madeCells zv.cells (c.toNat * i.size)) (e := e) (by rw [hcells]; exact VRs.flat fun v hv => hfl v (hmem v hv)) fun v hv => hon v (hmem v hv)
  refine ⟨m', _, _, .inl ?_, .slice (a := ⟨L.length, 0, none⟩) (c := c.toNat) h4 ?_, h5, h6⟩
  · have hb := VR.of_int (he.eval h1)
    have hc := VR.of_int (he.eval h2)
    simp only [execOp, hb, hc, Sem.run_bind, hrun, Result.andThen_ok, Sem.run_pure, Info.at]
    rfl
  · unfold OPEN; omega
theorem srcLen_ok {m : RMap} {x x' : Value} {k : Nat} (h : srcLen x = some k) (hv : VR m x x') (w : World) : (Builtin.lenOf x').run P w = .ok k w := by
  cases x <;> simp only [srcLen] at h <;> first | (cases h; done) | skip
  · injection h with h; subst h
    rw [hv.of_string]; rfl
  · rename_i a n c
    injection h with h; subst h
    cases a with
    | none => rw [hv.of_nilSlice]; rfl
    | some a =>
      rcases hv.of_slice with ⟨_, i, _, e⟩ | ⟨_, i, _, e⟩ | ⟨_, hn, a', c', e⟩
      · rw [e]; rfl
      · rw [e]; rfl
      · rw [e, hn]; rfl
theorem byteCells_flat (s : ByteArray) : ∀ v ∈ byteCells s, flat1 v = true := by
  intro v hv
  simp only [byteCells, List.mem_map] at hv
  obtain ⟨b, _, rfl⟩ := hv
  rfl
theorem srcCells_ok {m : RMap} {w : World} (hr : Rep P m L w) {s : Sl} {n esz : Nat} {cs : List Value} (h : srcCells L s n esz = some cs) (hn : n ≤ s.n) {x' : Value} (hv : VR m (.slice s.a s.n s.c) x') :
    ∃ cs', (Builtin.firstCells esz n x').run P w = .ok ⟨cs'⟩ w ∧ VRs m cs cs' ∧ (∀ v ∈ cs, one v = true) ∧ cs.length = n * esz := by
  unfold srcCells at h
  simp only [hif_eq, cond_eq_ite] at h
  split at h
  · rename_i h0
    have h0 := Nat.eq_of_beq_eq_true h0
    subst h0
    injection h with h; subst h
    refine ⟨[], ?_, .nil, by simp, by simp⟩
    cases ha : s.a with
    | none => rw [ha] at hv; rw [hv.of_nilSlice]; rfl
    | some a =>
      rw [ha] at hv
      rcases hv.of_slice with ⟨_, i, _, e⟩ | ⟨_, i, _, e⟩ | ⟨_, _, a', c', e⟩ <;> rw [e] <;> simp [Builtin.firstCells, loadCells, loadCellsFrom]
  · rename_i h0
    have h0 : n ≠ 0 := fun e => h0 (by rw [e]; rfl)
    split at h
    case h_2 => cases h
    rename_i a ha
    obtain ⟨h1, h2⟩ := cellsAt_cell h
    rw [ha] at hv
    have fin : ∀ (i : Info) (c' : Nat), m a.block = some i → x' = .slice (some (i.at a)) s.n c' → ∃ cs', (Builtin.firstCells esz n x').run P w = .ok ⟨cs'⟩ w ∧ VRs m cs cs' ∧ (∀ v ∈ cs, one v = true) ∧ cs.length = n * esz := fun i c' hi e => by
      obtain ⟨cs', h3, h4, h5⟩ := hr.cells hi (cs := cs) fun j v hj => by rw [addrN_add (cellsAt_spot h)]; exact h2 j v hj
      rw [h1] at h3
      exact ⟨cs', by rw [e]; exact h3, h4, h5, h1⟩
    rcases hv.of_slice with ⟨_, i, hi, e⟩ | ⟨_, i, hi, e⟩ | ⟨_, h3, _⟩
    · exact fin i _ hi e
    · exact fin i _ hi e
    · omega
theorem srcOf_ok {m : RMap} {w : World} (hr : Rep P m L w) {x x' : Value} {k n esz : Nat} {cs : List Value} (hl : srcLen x = some k) (h : srcOf L esz n x = some cs) (hn : n ≤ k) (hv : VR m x x') :
    ∃ cs', (Builtin.firstCells esz n x').run P w = .ok ⟨cs'⟩ w ∧ VRs m cs cs' ∧ (∀ v ∈ cs, one v = true) ∧ cs.length = n * esz := by
  cases x <;> simp only [srcLen] at hl <;> first | (cases hl; done) | skip
  · rename_i s
    injection hl with hl; subst hl
    simp only [srcOf, hif_eq, cond_eq_ite] at h
    split at h
    case isFalse => cases h
    rename_i h1
    have h1 := Nat.eq_of_beq_eq_true h1
    subst h1
    injection h with h; subst h
    rw [hv.of_string]
    refine ⟨byteCells (s.extract 0 n), ?_, VRs.flat (byteCells_flat _), fun v hv => one_of_flat1 (byteCells_flat _ v hv), ?_⟩
    · simp only [Builtin.firstCells, Sem.run_pure, byteCells]
      congr 1
      rw [arr_map]
    · simp [byteCells]
      omega
  · rename_i a q c
    injection hl with hl; subst hl
    exact srcCells_ok hr (s := ⟨a, q, c⟩) h hn hv
theorem own_set {L : LHeap} {q r : Nat} {b : LBlk} (h : own (L.set q b) r) : (r = q ∧ ∃ cs e sp, b = .cells cs e false sp) ∨ (r ≠ q ∧ own L r) := by
  obtain ⟨cs, e, sp, h⟩ := h
  by_cases hq : q = r
  · subst hq
    rw [List.getElem?_set] at h
    simp only [if_true] at h
    split at h
    · injection h with h; exact .inl ⟨rfl, cs, e, sp, h⟩
    · cases h
  · rw [List.getElem?_set_ne hq] at h
    exact .inr ⟨fun e => hq e.symm, cs, e, sp, h⟩
theorem Rep.kill {m : RMap} {w : World} (h : Rep P m L w) (q : Nat) : Rep P m (L.set q .dead) w ∧ Tr m L w m (L.set q .dead) w := by
  have hget : ∀ r cs e ro sp, (L.set q .dead)[r]? = some (.cells cs e ro sp) → r ≠ q ∧ L[r]? = some (.cells cs e ro sp) := fun r cs e ro sp hr => by
    by_cases hq : q = r
    · subst hq
      rw [List.getElem?_set] at hr
      simp only [if_true] at hr
      split at hr
      · injection hr with hr; cases hr
      · cases hr
    · rw [List.getElem?_set_ne hq] at hr
      exact ⟨fun e => hq e.symm, hr⟩
  have hown : ∀ r, own (L.set q .dead) r → own L r := fun r ⟨cs, e, sp, hr⟩ => ⟨cs, e, sp, (hget _ _ _ _ _ hr).2⟩
  have hloop : ∀ (r : Nat) (b : LBlk), aside b = true → (L.set q .dead)[r]? = some b → L[r]? = some b := fun r b hab hr => by
    by_cases hq : q = r
    · subst hq
      rw [List.getElem?_set] at hr
      simp only [if_true] at hr
      split at hr
      · injection hr with hr; subst hr; cases hab
      · cases hr
    · rw [List.getElem?_set_ne hq] at hr
      exact hr
  refine ⟨⟨fun r hr => h.fresh r (by simpa using hr), fun r cs e ro sp hr => h.row r cs e ro sp (hget _ _ _ _ _ hr).2, fun r r' i i' h1 h2 => h.sep r r' i i' (hown r h1) ?_, h.loops.keep (.refl m) hloop fun _ _ _ h => h⟩,
    .of h (.refl m) (by simp) (Nat.le_refl _) rfl rfl rfl (fun r i h1 h2 => .inl ⟨r, i, hown r h1, h2, rfl⟩) (fun _ _ _ => rfl) hloop⟩
  obtain ⟨cs, e, ro, sp, h2⟩ := h2
  exact ⟨cs, e, ro, sp, (hget _ _ _ _ _ h2).2⟩
/-- A block under a new name. -/
theorem Rep.move {m : RMap} {w : World} (h : Rep P m L w) {q : Nat} {i : Info} {cs : List Value} {e : TypeId} {sp : Nat} (hq : L[q]? = some (.cells cs e false sp)) (hi : m q = some i) :
    Rep P (ins m L.length i) (L.set q .dead ++ [.cells cs e false sp]) w ∧ Tr m L w (ins m L.length i) (L.set q .dead ++ [.cells cs e false sp]) w := by
  have hlt : q < L.length := (List.getElem?_eq_some_iff.1 hq).1
  have hext := MExt.ins (m := m) (r := L.length) i (h.fresh _ (Nat.le_refl _))
  have hget : ∀ r b, (L.set q .dead ++ [LBlk.cells cs e false sp])[r]? = some b → (r < L.length ∧ r = q ∧ b = .dead) ∨ (r < L.length ∧ r ≠ q ∧ L[r]? = some b) ∨ (r = L.length ∧ b = .cells cs e false sp) := fun r b hr => by
    rcases Nat.lt_trichotomy r L.length with h1 | h1 | h1
    · rw [List.getElem?_append_left (by simpa using h1)] at hr
      by_cases hrq : q = r
      · subst hrq; rw [List.getElem?_set_self hlt] at hr; injection hr with hr; exact .inl ⟨h1, rfl, hr.symm⟩
      · rw [List.getElem?_set_ne hrq] at hr; exact .inr (.inl ⟨h1, fun e => hrq e.symm, hr⟩)
    · subst h1
      rw [List.getElem?_append_right (by simp)] at hr
      simp at hr
      exact .inr (.inr ⟨rfl, hr.symm⟩)
    · rw [List.getElem?_eq_none (by simp; omega)] at hr; cases hr
  have hins : ∀ r j, r < L.length → ins m L.length i r = some j → m r = some j := fun r j hr hm => by
    unfold Rlm.ins at hm; rw [if_neg (by omega)] at hm; exact hm
  have hinsL : ∀ j, ins m L.length i L.length = some j → j = i := fun j hm => by
    unfold Rlm.ins at hm; rw [if_pos rfl] at hm; injection hm with hm; exact hm.symm
  have rowMono : ∀ {j : Info} {cs : List Value} {e : TypeId} {ro : Bool} {sp : Nat}, Row P m w j cs e ro sp → Row P (ins m L.length i) w j cs e ro sp := fun hrow =>
    ⟨let ⟨cp, e', fz, g1, g2, g3⟩ := hrow.there; ⟨cp, e', fz, g1, fun j v hv => let ⟨v', g4, g5⟩ := g2 j v hv; ⟨v', g4, g5.mono hext⟩, g3⟩, hrow.ones⟩
  have hownq : own L q := ⟨cs, e, sp, hq⟩
  have hloop : ∀ (r : Nat) (b : LBlk), aside b = true → (L.set q .dead ++ [LBlk.cells cs e false sp])[r]? = some b → L[r]? = some b := fun r b hab hr => by
    rcases hget _ _ hr with ⟨_, _, g⟩ | ⟨_, _, g⟩ | ⟨_, g⟩
    · subst g; cases hab
    · exact g
    · subst g; cases hab
  refine ⟨⟨fun r hr => ?_, fun r ds e2 ro2 sp2 hr2 => ?_, fun r r' j j' h6 h7 h8 h9 h10 => ?_, h.loops.keep hext hloop fun _ _ _ h => h⟩,
    .of h hext (by simp) (Nat.le_refl _) rfl rfl rfl (fun r j h6 h7 => ?_) (fun _ _ _ => rfl) hloop⟩
  · simp at hr
    unfold Rlm.ins
    rw [if_neg (by omega)]
    exact h.fresh r (by omega)
  · rcases hget _ _ hr2 with ⟨_, _, g⟩ | ⟨g1, g2, g3⟩ | ⟨g1, g2⟩
    · cases g
    · obtain ⟨j, g4, g5⟩ := h.row _ _ _ _ _ g3
      exact ⟨j, hext _ _ g4, rowMono g5⟩
    · subst g1
      injection g2 with e1 e2 e3 e4
      subst e1; subst e2; subst e3; subst e4
      obtain ⟨j, g4, g5⟩ := h.row _ _ _ _ _ hq
      rw [hi] at g4; injection g4 with g4; subst g4
      exact ⟨i, by unfold Rlm.ins; rw [if_pos rfl], rowMono g5⟩
  · obtain ⟨c1, c2, c3, c4⟩ := h6
    obtain ⟨d1, d2, d3, d4, d5⟩ := h7
    rcases hget _ _ c4 with ⟨_, _, g⟩ | ⟨g1, g2, g3⟩ | ⟨g1, g2⟩
    · cases g
    · rcases hget _ _ d5 with ⟨_, _, g⟩ | ⟨k1, k2, k3⟩ | ⟨k1, k2⟩
      · cases g
      · exact h.sep r r' j j' ⟨_, _, _, g3⟩ ⟨_, _, _, _, k3⟩ h8 (hins _ _ g1 h9) (hins _ _ k1 h10)
      · subst k1
        rw [hinsL _ h10]
        exact h.sep r q j i ⟨_, _, _, g3⟩ hownq.live g2 (hins _ _ g1 h9) hi
    · subst g1
      rw [hinsL _ h9]
      rcases hget _ _ d5 with ⟨_, _, g⟩ | ⟨k1, k2, k3⟩ | ⟨k1, k2⟩
      · cases g
      · exact h.sep q r' i j' hownq ⟨_, _, _, _, k3⟩ (fun e => k2 e.symm) hi (hins _ _ k1 h10)
      · omega
  · obtain ⟨c1, c2, c3, c4⟩ := h6
    rcases hget _ _ c4 with ⟨_, _, g⟩ | ⟨g1, g2, g3⟩ | ⟨g1, g2⟩
    · cases g
    · exact .inl ⟨r, j, ⟨_, _, _, g3⟩, hins _ _ g1 h7, rfl⟩
    · subst g1
      rw [hinsL _ h7]
      exact .inl ⟨q, i, hownq, hi, rfl⟩
/-- Cells written behind what a block is known to hold. -/
theorem Rep.extend {m : RMap} {w : World} (h : Rep P m L w) {q : Nat} {i : Info} {cs : List Value} {e : TypeId} {sp k : Nat} (hq : L[q]? = some (.cells cs e false sp)) (hi : m q = some i) (hsp : sp ≠ 0)
    {vs vs' : List Value} (hv : VRs m vs vs') (ho : ∀ v ∈ vs, one v = true) (hk : k ≤ cs.length) (hfit : k + vs.length ≤ i.top) :
    ∃ w', (storeCells ⟨i.blk, k, none⟩ vs').run P w = .ok () w' ∧ Rep P m (L.set q (.cells (cs.take k ++ vs) e false sp)) w' ∧ Tr m L w m (L.set q (.cells (cs.take k ++ vs) e false sp)) w' := by
  have hlt : q < L.length := (List.getElem?_eq_some_iff.1 hq).1
  obtain ⟨i', g1, hrow⟩ := h.row _ _ _ _ _ hq
  rw [hi] at g1; injection g1 with g1; subst g1
  obtain ⟨cp, e', fz, hh, hcell, hro, hsp'⟩ := hrow.there
  obtain ⟨hbase, rfl, hfz⟩ := hro rfl
  obtain ⟨_, htop, hesz, hcel⟩ := hsp' hsp
  have hlen := hv.length
  obtain ⟨w', h1, h2, h3, h4, h5⟩ := run_stores P i.blk e' fz vs' cp k 0 w hh (by omega) hfz (hv.ones ho)
  have hnew : w'.heap[i.blk]? = some (.cells ⟨setAll cp.toList k vs'⟩ e' fz) := by
    rw [h2, Array.getElem?_setIfInBounds, if_pos rfl, if_pos (Array.getElem?_eq_some_iff.1 hh).1]; rfl
  have hold : ∀ b, b ≠ i.blk → w'.heap[b]? = w.heap[b]? := fun b hb => by
    rw [h2, Array.getElem?_setIfInBounds, if_neg (fun e => hb e.symm)]
  have hsize : w'.heap.size = w.heap.size := by rw [h2]; simp
  have hownq : own L q := ⟨cs, e', sp, hq⟩
  have hloop : ∀ (r : Nat) (b : LBlk), aside b = true → (L.set q (LBlk.cells (cs.take k ++ vs) e' false sp))[r]? = some b → L[r]? = some b := fun r b hab hr => by
    by_cases hrr : q = r
    · subst hrr; rw [List.getElem?_set_self hlt] at hr; injection hr with hr; subst hr; cases hab
    · rw [List.getElem?_set_ne hrr] at hr; exact hr
  refine ⟨w', h1, ⟨fun r hr => h.fresh r (by simpa using hr), fun r ds e2 ro2 sp2 hr2 => ?_, fun r r' j j' h6 h7 h8 h9 h10 => ?_, h.loops.keep (.refl m) hloop fun b lp hab hb => ?_⟩, ?_⟩
  · by_cases hrr : q = r
    · subst hrr
      rw [List.getElem?_set_self hlt] at hr2
      injection hr2 with hr2; injection hr2 with e1 e2 e3 e4
      subst e1; subst e2; subst e3; subst e4
      refine ⟨i, hi, ⟨⟨_, _, fz, hnew, ?_, fun _ => ⟨hbase, rfl, ?_⟩, fun hne => ⟨rfl, by rw [htop]; simp [setAll_length], hesz, hcel⟩⟩, ?_⟩⟩
      · intro j v hv2
        simp only [List.getElem?_toArray, hbase, Nat.zero_add]
        rw [setAll_get vs' cp.toList k j (by simp; omega), hlen]
        by_cases hj : j < k
        · rw [List.getElem?_append_left (by simp; omega), List.getElem?_take, if_pos hj] at hv2
          rw [if_neg (by omega)]
          obtain ⟨v', h11, h12⟩ := hcell j v hv2
          exact ⟨v', by simpa [hbase] using h11, h12⟩
        · rw [List.getElem?_append_right (by simp; omega)] at hv2
          have e1 : (cs.take k).length = k := by simp; omega
          rw [e1] at hv2
          have hj2 : j - k < vs.length := (List.getElem?_eq_some_iff.1 hv2).1
          rw [if_pos (by omega)]
          exact hv.get hv2
      · intro o ho2
        simp [setAll_length] at ho2
        exact hfz o ho2
      · intro v hv2
        rcases List.mem_append.1 hv2 with h6 | h6
        · exact hrow.ones v (List.mem_of_mem_take h6)
        · exact ho v h6
    · rw [List.getElem?_set_ne hrr] at hr2
      obtain ⟨j, h6, h7⟩ := h.row _ _ _ _ _ hr2
      have hne : j.blk ≠ i.blk := (h.sep q r i j hownq ⟨ds, e2, ro2, sp2, hr2⟩ hrr hi h6).symm
      refine ⟨j, h6, ⟨?_, h7.ones⟩⟩
      obtain ⟨cp2, e3, fz2, h8, h9⟩ := h7.there
      exact ⟨cp2, e3, fz2, by rw [hold _ hne]; exact h8, h9⟩
  · have o1 : own L r := by
      rcases own_set h6 with ⟨rfl, _⟩ | ⟨_, h⟩
      · exact hownq
      · exact h
    have o2 : live L r' := by
      by_cases hrr : q = r'
      · subst hrr; exact hownq.live
      · obtain ⟨c1, c2, c3, c4, c5⟩ := h7
        rw [List.getElem?_set_ne hrr] at c5
        exact ⟨c1, c2, c3, c4, c5⟩
    exact h.sep r r' j j' o1 o2 h8 h9 h10
  · rw [hold b fun e => by rw [e, hh] at hb; injection hb with hb; subst hb; cases hab]; exact hb
  · refine .of h (.refl m) (by simp) (by omega) h3 h4 h5 (fun r j h6 h7 => .inl ⟨r, j, ?_, h7, rfl⟩) (fun b _ hb2 => hold b fun e => hb2 q i hownq hi e.symm) hloop
    rcases own_set h6 with ⟨rfl, _⟩ | ⟨_, h⟩
    · exact hownq
    · exact h
end
end Go.Rlm
end

section
namespace Go.Rlm
section
variable {P : Program} {env : Env} {L : LHeap} {o : Oper} {r : LR} {K : Value → LHeap → R}
theorem wI64' {n : Int} (h1 : -9223372036854775808 ≤ n) (h2 : n < 9223372036854775808) : IntKind.wrap .i64 n = n := by
  simp [IntKind.wrap, IntKind.bits, IntKind.signed]
  split <;> omega
/-- The model's append, what it does laid open. -/
theorem run_append {ts : Array TypeId} {t0 t1 ty e : TypeId} {d1 : TypeDesc} {i : TypeInfo} {zv : Value} (hts0 : ts[0]? = some t0) (hts1 : ts[1]? = some t1) (hu0 : P.underlying t0 = some (.slice e)) (hu1 : P.underlying t1 = some d1) (hd1 : ∀ k, d1 ≠ .int k) (hi : P.info? e = some i) (hz : i.zero = some zv)
    {base : Option Addr} {sLen sCap n : Nat} {x' : Value} {w : World} (hn : (Builtin.lenOf x').run P w = .ok n w) :
    (∀ {news : List Value} {w' : World}, sLen + n ≤ sCap → (Builtin.firstCells i.size n x').run P w = .ok ⟨news⟩ w →
      (match base with | some a => (storeCells (a.add (sLen * i.size)) news).run P w = .ok () w' | none => w' = w) →
      (Builtin.append_ ts ty #[.slice base sLen sCap, x']).run P w = .ok (.slice base (sLen + n) sCap) w') ∧
    (∀ {old news : List Value}, ¬ (sLen + n ≤ sCap) → (sLen + n) * i.bytes ≤ 2 ^ 47 → sLen + n ≤ 2 ^ 62 →
      (Builtin.firstCells i.size sLen (.slice base sLen sCap)).run P w.drew = .ok ⟨old⟩ w.drew →
      (Builtin.firstCells i.size n x').run P w.drew = .ok ⟨news⟩ w.drew →
      ∃ cap, sLen + n ≤ cap ∧ (Builtin.append_ ts ty #[.slice base sLen sCap, x']).run P w =
        .ok (.slice (some ⟨w.heap.size, 0, none⟩) (sLen + n) cap) (w.drew.alloc (.cells ⟨old ++ news ++ (Builtin.zeroCells zv.cells (cap - (sLen + n))).toList⟩ e))) := by
  have hm : (match d1 with | .int _ => true | _ => false) = false := by cases d1 <;> first | rfl | exact absurd rfl (hd1 _)
  have hsz : ∀ w, (sizeOf e).run P w = .ok i.size w := fun w => by simp [sizeOf, typeInfo, hi]
  refine ⟨fun {news w'} hroom hf hst => ?_, fun {old news} hgrow hb h62 hf hf2 => ?_⟩
  · cases base with
    | none =>
      simp only at hst
      subst hst
      simp [Builtin.append_, hts0, hts1, run_underlying hu0, run_underlying hu1, hsz, hn, hroom, hf]
    | some a =>
      simp only at hst
      simp [Builtin.append_, hts0, hts1, run_underlying hu0, run_underlying hu1, hsz, hn, hroom, hf, hst]
  · have h1 : ¬ (((sLen + n : Nat) : Int) > IntKind.i64.max) := by
      have : IntKind.i64.max = 9223372036854775807 := by decide
      omega
    have h2 : ¬ (Builtin.nextslicecap (sLen + n) sCap * i.bytes > 2 ^ 48) := by
      have := growslice_fits (need := sLen + n) (old := sCap) (bytes := i.bytes) (by omega) (by omega)
      omega
    refine ⟨grownCap w (sLen + n) sCap e, grownCap_ge w _ _ e, ?_⟩
    have h63' : ¬ (9223372036854775807 < ((sLen : Int) + (n : Int))) := by omega
    have h48' : ¬ (281474976710656 < Builtin.nextslicecap (sLen + n) sCap * i.bytes) := by omega
    have hg1 : ¬ (sLen + n ≤ sCap) := hgrow
    have hn2 : (Builtin.lenOf x').run P w = .ok n w := hn
    simp [Builtin.append_, hts0, hts1, run_underlying hu0, run_underlying hu1, sizeOf, typeInfo, zeroValue, hi, hz, hn2, hg1, h63', h48', Question.forced, hf, hf2, newRow, grownCap]
    congr 2
    apply Array.ext'
    simp [List.append_assoc]
/-- The same where what is appended is made there: so many noughts. -/
theorem run_append0 {ts : Array TypeId} {t0 t1 ty e : TypeId} {k : IntKind} {i : TypeInfo} {zv : Value} (hts0 : ts[0]? = some t0) (hts1 : ts[1]? = some t1) (hu0 : P.underlying t0 = some (.slice e)) (hu1 : P.underlying t1 = some (.int k)) (hi : P.info? e = some i) (hz : i.zero = some zv) (hsz0 : 0 < i.size)
    {base : Option Addr} {sLen sCap n : Nat} {w : World} (hn : n * i.bytes ≤ 140737488355328) (hn63 : n < 9223372036854775808) :
    (∀ {news : List Value} {w' : World}, sLen + n ≤ sCap → news = (Builtin.zeroCells zv.cells n).toList →
      (match base with | some a => (storeCells (a.add (sLen * i.size)) news).run P w = .ok () w' | none => w' = w) →
      (Builtin.append_ ts ty #[.slice base sLen sCap, .int .i64 (n : Int)]).run P w = .ok (.slice base (sLen + n) sCap) w') ∧
    (∀ {old news : List Value}, ¬ (sLen + n ≤ sCap) → (sLen + n) * i.bytes ≤ 2 ^ 47 → sLen + n ≤ 2 ^ 62 →
      (Builtin.firstCells i.size sLen (.slice base sLen sCap)).run P w.drew = .ok ⟨old⟩ w.drew →
      news = (Builtin.zeroCells zv.cells n).toList →
      ∃ cap, sLen + n ≤ cap ∧ (Builtin.append_ ts ty #[.slice base sLen sCap, .int .i64 (n : Int)]).run P w =
        .ok (.slice (some ⟨w.heap.size, 0, none⟩) (sLen + n) cap) (w.drew.alloc (.cells ⟨old ++ news ++ (Builtin.zeroCells zv.cells (cap - (sLen + n))).toList⟩ e))) := by
  have hsz : ∀ w, (sizeOf e).run P w = .ok i.size w := fun w => by simp [sizeOf, typeInfo, hi]
  have hwrap : IntKind.i64.wrap (n : Int) = n := wI64' (by omega) (by omega)
  have hl0 : ¬ ((n : Int) < 0) := by omega
  have hl1 : ¬ ((n : Int) * (i.bytes : Int) > 281474976710656) := by
    have : (n : Int) * (i.bytes : Int) = ((n * i.bytes : Nat) : Int) := by push_cast; rfl
    omega
  have hzero : n * i.size = 0 → Builtin.zeroCells zv.cells n = #[] := fun h => by
    have : n = 0 := by
      rcases Nat.mul_eq_zero.1 h with h | h
      · exact h
      · omega
    subst this
    simp [Builtin.zeroCells]
  refine ⟨fun {news w'} hroom hnews hst => ?_, fun {old news} hgrow hb h62 hf hnews => ?_⟩
  · subst hnews
    by_cases h0 : n * i.size = 0
    · have hz0 := hzero h0
      rw [hz0] at hst
      cases base with
      | none =>
        simp only at hst
        subst hst
        simp [Builtin.append_, hts0, hts1, run_underlying hu0, run_underlying hu1, sizeOf, typeInfo, hi, asInt, asIntOf, hwrap, hl0, hl1, h0, hroom]
      | some a =>
        simp only at hst
        simp [Builtin.append_, hts0, hts1, run_underlying hu0, run_underlying hu1, sizeOf, typeInfo, hi, asInt, asIntOf, hwrap, hl0, hl1, h0, hroom]
        have hst : (storeCells (a.add (sLen * i.size)) []).run P w = .ok () w' := hst
        rw [hst]; rfl
    · cases base with
      | none =>
        simp only at hst
        subst hst
        simp [Builtin.append_, hts0, hts1, run_underlying hu0, run_underlying hu1, sizeOf, typeInfo, hi, asInt, asIntOf, hwrap, hl0, hl1, h0, hroom, zeroValue, hz]
      | some a =>
        simp only at hst
        simp [Builtin.append_, hts0, hts1, run_underlying hu0, run_underlying hu1, sizeOf, typeInfo, hi, asInt, asIntOf, hwrap, hl0, hl1, h0, hroom, zeroValue, hz, hst]
  · subst hnews
    have hg1 : ¬ (sLen + n ≤ sCap) := hgrow
    have h48 : ¬ (281474976710656 < Builtin.nextslicecap (sLen + n) sCap * i.bytes) := by
      have := growslice_fits (need := sLen + n) (old := sCap) (bytes := i.bytes) (by omega) (by omega)
      omega
    have h63 : ¬ (9223372036854775807 < ((sLen : Int) + (n : Int))) := by omega
    have hmax : max (n : Int) 0 = n := by omega
    refine ⟨grownCap w (sLen + n) sCap e, grownCap_ge w _ _ e, ?_⟩
    by_cases h0 : n * i.size = 0
    · have hz0 := hzero h0
      rw [hz0]
      simp [Builtin.append_, hts0, hts1, run_underlying hu0, run_underlying hu1, sizeOf, typeInfo, hi, asInt, asIntOf, hwrap, hl0, hl1, h0, hg1, h48, h63, hmax, zeroValue, hz, Question.forced, hf, newRow, grownCap]
      congr 2
      apply Array.ext'
      simp
    · simp [Builtin.append_, hts0, hts1, run_underlying hu0, run_underlying hu1, sizeOf, typeInfo, hi, asInt, asIntOf, hwrap, hl0, hl1, h0, hg1, h48, h63, hmax, zeroValue, hz, Question.forced, hf, newRow, grownCap]
      congr 2
      apply Array.ext'
      simp [List.append_assoc]
end
end Go.Rlm
end

section
namespace Go.Rlm
section
variable {P : Program} {env : Env} {L : LHeap} {o : Oper} {r : LR} {K : Value → LHeap → R}
theorem addr_mul (a : Addr) (n : Nat) : a.add n = if n = 0 then a else ⟨a.block, a.off + n, none⟩ := by unfold Addr.add; split <;> rfl
set_option maxHeartbeats 1000000 in
theorem app_ok_gen {m : RMap} {w : World} (hr : Rep P m L w) {ts : Array TypeId} {ty e : TypeId} {i : TypeInfo} {z : List Value}
    (hi : P.info? e = some i) (hz : zeroOf P e = some z) (hzl : z.length = i.size) (hsz : 0 < i.size) {s s' : Sl} {n : Nat} {news : List Value} {L' : LHeap}
    (h : app L e i.size i.bytes s n news = some (s', L')) {sv' x' : Value} (hx : VR m (.slice s.a s.n s.c) sv') {Src : World → List Value → Prop}
    (happ : ∀ {zv : Value}, i.zero = some zv → ∀ {base : Option Addr} {sCap : Nat},
      (∀ {nn : List Value} {w' : World}, s.n + n ≤ sCap → Src w nn → (match base with | some a => (storeCells (a.add (s.n * i.size)) nn).run P w = .ok () w' | none => w' = w) →
        (Builtin.append_ ts ty #[.slice base s.n sCap, x']).run P w = .ok (.slice base (s.n + n) sCap) w') ∧
      (∀ {old nn : List Value}, ¬ (s.n + n ≤ sCap) → (s.n + n) * i.bytes ≤ 2 ^ 47 → s.n + n ≤ 2 ^ 62 → (Builtin.firstCells i.size s.n (.slice base s.n sCap)).run P w.drew = .ok ⟨old⟩ w.drew → Src w.drew nn →
        ∃ cap, s.n + n ≤ cap ∧ (Builtin.append_ ts ty #[.slice base s.n sCap, x']).run P w =
          .ok (.slice (some ⟨w.heap.size, 0, none⟩) (s.n + n) cap) (w.drew.alloc (.cells ⟨old ++ nn ++ (Builtin.zeroCells zv.cells (cap - (s.n + n))).toList⟩ e))))
    (hsrc : ∀ w2, Rep P m L w2 → ∃ news', Src w2 news' ∧ VRs m news news' ∧ (∀ v ∈ news, one v = true) ∧ news.length = n * i.size) :
    ∃ m' w' v', (Builtin.append_ ts ty #[sv', x']).run P w = .ok v' w' ∧ VR m' (.slice s'.a s'.n s'.c) v' ∧ Rep P m' L' w' ∧ Tr m L w m' L' w' := by
  obtain ⟨zv, i2, hi2, hz1, hz2⟩ := zeroOf_zero hz
  rw [hi] at hi2; injection hi2 with hi2; subst hi2
  have hcel : P.cellsOf e = i.size := by simp [Program.cellsOf, hi]
  have hzs : zv.cells.size = i.size := by rw [← hzl, ← hz2]; simp
  obtain ⟨news', hf, hnv, hno, hnl⟩ := hsrc w hr
  -- a new block, of whatever slice
  have grow : ∀ (Lx : LHeap), Rep P m Lx w → Tr m L w m Lx w → Lx.length = L.length → ∀ (base : Option Addr) (sCap : Nat) (old : List Value), sv' = .slice base s.n sCap → ¬ (s.n + n ≤ sCap) → (s.n + n) * i.bytes ≤ 2 ^ 47 → s.n + n ≤ 2 ^ 62 →
      (∀ w2, Rep P m L w2 → ∃ old', (Builtin.firstCells i.size s.n (.slice base s.n sCap)).run P w2 = .ok ⟨old'⟩ w2 ∧ VRs m old old' ∧ (∀ v ∈ old, one v = true) ∧ old.length = s.n * i.size) →
      ∃ m' w' v', (Builtin.append_ ts ty #[sv', x']).run P w = .ok v' w' ∧ VR m' (.slice (some ⟨L.length, 0, none⟩) (s.n + n) OPEN) v' ∧ Rep P m' (Lx ++ [.cells (old ++ news) e false i.size]) w' ∧ Tr m L w m' (Lx ++ [.cells (old ++ news) e false i.size]) w' :=
    fun Lx hLx hTr hlen base sCap old hsv hg hb h62 hold => by
    have hrd : Rep P m L w.drew := hr.drew _
    obtain ⟨nn, k1, k2, k3, k4⟩ := hsrc w.drew hrd
    obtain ⟨oo, k5, k6, k7, k8⟩ := hold w.drew hrd
    obtain ⟨cap, hcap, hrun⟩ := (happ hz1 (base := base) (sCap := sCap)).2 hg hb h62 k5 k1
    have hlz : (Builtin.zeroCells zv.cells (cap - (s.n + n))).toList.length = (cap - (s.n + n)) * i.size := by simp [Builtin.zeroCells, hzs]
    have hol := k6.length
    have hnl2 := k2.length
    obtain ⟨g1, g2⟩ := hLx.push (w' := w.drew.alloc (.cells ⟨oo ++ nn ++ (Builtin.zeroCells zv.cells (cap - (s.n + n))).toList⟩ e)) (cs := old ++ news) (cs' := oo ++ nn) (e := e) i.size (cap * i.size) (fz := (0, 0))
      (extra := (Builtin.zeroCells zv.cells (cap - (s.n + n))).toList) rfl (by intro o _; simp) rfl rfl rfl (k6.append k2) (fun v hv => by
        rcases List.mem_append.1 hv with h | h
        · exact k7 v h
        · exact k3 v h) (fun _ => ⟨by
          rw [List.length_append, hol, hnl2, k8, k4, hlz, ← Nat.add_mul, ← Nat.add_mul]
          congr 1
          omega, hcel.symm⟩)
    refine ⟨_, _, _, by rw [hsv]; exact hrun, ?_, g1, hTr.trans g2⟩
    have hm : ins m Lx.length ⟨w.heap.size, 0, cap * i.size, i.size⟩ L.length = some ⟨w.heap.size, 0, cap * i.size, i.size⟩ := by rw [hlen]; simp [ins]
    have := VR.opn (a := ⟨L.length, 0, none⟩) (n := s.n + n) (m := ins m Lx.length ⟨w.heap.size, 0, cap * i.size, i.size⟩) (i := ⟨w.heap.size, 0, cap * i.size, i.size⟩) hm
    simpa [Info.at, Nat.mul_div_cancel _ hsz] using this
  -- there is room
  have room : ∀ (base : Option Addr) (sCap : Nat) {nn : List Value} {w' : World}, s.n + n ≤ sCap → Src w nn →
      (match base with | some a => (storeCells (a.add (s.n * i.size)) nn).run P w = .ok () w' | none => w' = w) →
      (Builtin.append_ ts ty #[.slice base s.n sCap, x']).run P w = .ok (.slice base (s.n + n) sCap) w' :=
    fun base sCap nn w' => (happ hz1 (base := base) (sCap := sCap)).1 (nn := nn) (w' := w')
  unfold app at h
  simp only [hif_eq, cond_eq_ite] at h
  split at h
  · rename_i hc
    have hc : s.c < OPEN := by simpa using hc
    obtain ⟨sa', hv, hsa⟩ := hx.sl hc
    split at h
    · rename_i hroom
      have hroom : s.n + n ≤ s.c := by simpa using hroom
      rcases hsa with ⟨ha, rfl⟩ | ⟨a, j, ha, hj, rfl⟩
      · rw [ha] at h
        simp only at h
        injection h with h; injection h with h1 h2
        subst h1; subst h2
        exact ⟨m, w, _, by rw [hv]; exact room none s.c hroom hf rfl, .flat1 rfl, hr, .refl m L w⟩
      · rw [ha] at h
        simp only at h
        split at h
        · rename_i hemp
          have hemp : news = [] := by simpa using hemp
          injection h with h; injection h with h1 h2
          subst h1; subst h2; subst hemp
          cases hnv
          exact ⟨m, w, _, by rw [hv]; exact room (some (j.at a)) s.c hroom hf rfl, .slice hj hc, hr, .refl m L w⟩
        · simp only [Option.bind_eq_bind, Option.bind_eq_some_iff] at h
          obtain ⟨L2, h1, h2⟩ := h
          injection h2 with h2; injection h2 with h2 h3
          subst h2; subst h3
          obtain ⟨w', h4, h5, h6⟩ := hr.stores h1 hnv hno (i := j) (by rw [add_block]; exact hj)
          rw [← at_add] at h4
          exact ⟨m, w', _, by rw [hv]; exact room (some (j.at a)) s.c hroom hf h4, .slice hj hc, h5, h6⟩
    · rename_i hgrow
      have hgrow : ¬ (s.n + n ≤ s.c) := by simpa using hgrow
      split at h
      case isFalse => cases h
      rename_i hb
      simp only [Bool.and_eq_true, Nat.ble_eq] at hb
      simp only [Option.bind_eq_bind, Option.bind_eq_some_iff] at h
      obtain ⟨old, h1, h2⟩ := h
      injection h2 with h2; injection h2 with h2 h3
      subst h2; subst h3
      exact grow L hr (.refl m L w) rfl sa' s.c old hv hgrow hb.1 hb.2 fun w2 hw2 => srcCells_ok hw2 h1 (Nat.le_refl _) (hv ▸ hx)
  · split at h
    case isFalse => cases h
    rename_i hc
    have hc := Nat.eq_of_beq_eq_true hc
    split at h
    · cases h
    rename_i a ha
    rw [ha, hc] at hx
    rcases hx.of_slice with ⟨h0, _⟩ | ⟨_, j, hj, hv⟩ | ⟨h0, _⟩
    · omega
    case inr.inr => unfold OPEN LOOSE at h0; omega
    split at h
    · cases h
    rename_i xk hbl
    obtain ⟨g1, g2, g3, g4, g5, cs, el, cp, fz, g6, g7, g8, g9, g10⟩ := blen_ok hr hbl hj
    generalize hC : (j.top - a.off) / j.esz = C at *
    split at h
    · rename_i hle
      have hle : s.n + n ≤ xk := by simpa using hle
      have hroom : s.n + n ≤ C := by omega
      split at h
      · rename_i hemp
        have hemp : news = [] := by simpa using hemp
        injection h with h; injection h with h1 h2
        subst h1; subst h2; subst hemp
        cases hnv
        refine ⟨m, w, _, by rw [hv]; exact room (some (j.at a)) C hroom hf rfl, ?_, hr, .refl m L w⟩
        rw [← hC]; exact .opn hj
      · simp only [Option.bind_eq_bind, Option.bind_eq_some_iff] at h
        obtain ⟨L2, h1, h2⟩ := h
        injection h2 with h2; injection h2 with h2 h3
        subst h2; subst h3
        obtain ⟨w', h4, h5, h6⟩ := hr.stores h1 hnv hno (i := j) (by rw [add_block]; exact hj)
        rw [← at_add] at h4
        refine ⟨m, w', _, by rw [hv]; exact room (some (j.at a)) C hroom hf h4, ?_, h5, h6⟩
        rw [← hC]; exact .opn hj
    · rename_i hgt
      have hgt : ¬ (s.n + n ≤ xk) := by simpa using hgt
      split at h
      case isFalse => cases h
      rename_i hb
      simp only [Bool.and_eq_true, Nat.ble_eq] at hb
      obtain ⟨⟨⟨hb1, hb2⟩, hb3⟩, hb4⟩ := hb
      have hoff := Nat.eq_of_beq_eq_true hb3
      split at h
      case h_2 => cases h
      rename_i cs2 e2 sp2 hL
      rw [g6] at hL
      injection hL with hL; injection hL with q1 q2 q3 q4
      subst q1; subst q2; subst q4
      split at h
      case isFalse => cases h
      rename_i hee
      have hee := Nat.eq_of_beq_eq_true hee
      subst hee
      injection h with h; injection h with h1 h2
      subst h1; subst h2
      have hat : j.at a = ⟨j.blk, 0, none⟩ := by simp [Info.at, g1, g2, hoff]
      have hlen : s.n * i.size ≤ cs.length := by
        have : xk * i.size ≤ cs.length := by
          rw [g7, hoff, Nat.sub_zero]; exact Nat.div_mul_le_self _ _
        have := Nat.mul_le_mul_right i.size hb4
        omega
      have hCtop : C * i.size ≤ j.top := by
        rw [← hC, hoff, Nat.sub_zero, g3]; exact Nat.div_mul_le_self _ _
      by_cases hroom : s.n + n ≤ C
      · have hfit : s.n * i.size + news.length ≤ j.top := by
          rw [hnl, ← Nat.add_mul]
          exact Nat.le_trans (Nat.mul_le_mul_right _ hroom) hCtop
        obtain ⟨w', k1, k2, k3⟩ := hr.extend g6 hj (by omega) hnv hno hlen hfit
        obtain ⟨k4, k5⟩ := k2.move (q := a.block) (i := j) (List.getElem?_set_self (List.getElem?_eq_some_iff.1 g6).1) hj
        have hset : (L.set a.block (.cells (cs.take (s.n * i.size) ++ news) el false i.size)).set a.block .dead = L.set a.block .dead := by simp
        rw [hset] at k4 k5
        simp only [List.length_set] at k4 k5
        have hst : (storeCells ((j.at a).add (s.n * i.size)) news').run P w = .ok () w' := by
          rw [hat]
          have : (Addr.mk j.blk 0 none).add (s.n * i.size) = ⟨j.blk, s.n * i.size, none⟩ := by
            rw [addr_mul]
            split
            · rename_i h0; rw [h0]
            · simp
          rw [this]; exact k1
        refine ⟨_, w', _, by rw [hv]; exact room (some (j.at a)) C hroom hf hst, ?_, k4, k3.trans k5⟩
        have hm : ins m L.length j L.length = some j := by simp [ins]
        have := VR.opn (a := ⟨L.length, 0, none⟩) (n := s.n + n) (i := j) hm
        rw [hat, ← hC, hoff]
        simpa [Info.at, g2] using this
      · obtain ⟨q1, q2⟩ := hr.kill a.block
        refine grow (L.set a.block .dead) q1 q2 (by simp) (some (j.at a)) C (cs.take (s.n * i.size)) hv hroom hb1 hb2 fun w2 hw2 => ?_
        have hx2 : VR m (.slice (some a) s.n OPEN) (.slice (some (j.at a)) s.n C) := by rw [← hC]; exact .opn hj
        refine srcCells_ok hw2 (s := ⟨some a, s.n, OPEN⟩) ?_ (Nat.le_refl _) hx2
        unfold srcCells
        simp only [hif_eq, cond_eq_ite]
        split
        · rename_i h0
          have h0 := Nat.eq_of_beq_eq_true h0
          simp [h0]
        · unfold cellsAt
          rw [g1]
          simp only [g6, hoff, Nat.zero_add, List.drop_zero, hif_eq, cond_eq_ite]
          rw [if_pos (by simpa using hlen)]
theorem app_ok {m : RMap} {w : World} (hr : Rep P m L w) {ts : Array TypeId} {t0 t1 ty e : TypeId} {d1 : TypeDesc} {i : TypeInfo} {z : List Value} (hts0 : ts[0]? = some t0) (hts1 : ts[1]? = some t1) (hu0 : P.underlying t0 = some (.slice e)) (hu1 : P.underlying t1 = some d1) (hd1 : ∀ k, d1 ≠ .int k)
    (hi : P.info? e = some i) (hz : zeroOf P e = some z) (hzl : z.length = i.size) (hsz : 0 < i.size) {s s' : Sl} {n : Nat} {news : List Value} {L' : LHeap}
    (h : app L e i.size i.bytes s n news = some (s', L')) {sv' x' : Value} (hx : VR m (.slice s.a s.n s.c) sv') (hn : (Builtin.lenOf x').run P w = .ok n w)
    (hsrc : ∀ w2, Rep P m L w2 → ∃ news', (Builtin.firstCells i.size n x').run P w2 = .ok ⟨news'⟩ w2 ∧ VRs m news news' ∧ (∀ v ∈ news, one v = true) ∧ news.length = n * i.size) :
    ∃ m' w' v', (Builtin.append_ ts ty #[sv', x']).run P w = .ok v' w' ∧ VR m' (.slice s'.a s'.n s'.c) v' ∧ Rep P m' L' w' ∧ Tr m L w m' L' w' :=
  app_ok_gen hr hi hz hzl hsz h hx (Src := fun w2 nn => (Builtin.firstCells i.size n x').run P w2 = .ok ⟨nn⟩ w2)
    (fun {_} hz1 {base} {sCap} => ⟨fun h1 h2 h3 => (run_append (ty := ty) hts0 hts1 hu0 hu1 hd1 hi hz1 (base := base) (sLen := s.n) (sCap := sCap) hn).1 h1 h2 h3, fun h1 h2 h3 h4 h5 => (run_append (ty := ty) hts0 hts1 hu0 hu1 hd1 hi hz1 (base := base) (sLen := s.n) (sCap := sCap) hn).2 h1 h2 h3 h4 h5⟩) hsrc
/-- The same where what is appended is made there. -/
theorem app_ok0 {m : RMap} {w : World} (hr : Rep P m L w) {ts : Array TypeId} {t0 t1 ty e : TypeId} {k : IntKind} {i : TypeInfo} {z : List Value} (hts0 : ts[0]? = some t0) (hts1 : ts[1]? = some t1) (hu0 : P.underlying t0 = some (.slice e)) (hu1 : P.underlying t1 = some (.int k))
    (hi : P.info? e = some i) (hz : zeroOf P e = some z) (hzl : z.length = i.size) (hsz : 0 < i.size) {s s' : Sl} {n : Nat} {L' : LHeap} (hn : n * i.bytes ≤ 140737488355328) (hn63 : n < 9223372036854775808)
    (h : app L e i.size i.bytes s n (List.replicate n z).flatten = some (s', L')) {sv' : Value} (hx : VR m (.slice s.a s.n s.c) sv') :
    ∃ m' w' v', (Builtin.append_ ts ty #[sv', .int .i64 (n : Int)]).run P w = .ok v' w' ∧ VR m' (.slice s'.a s'.n s'.c) v' ∧ Rep P m' L' w' ∧ Tr m L w m' L' w' := by
  obtain ⟨zv, i2, hi2, hz1, hz2⟩ := zeroOf_zero hz
  rw [hi] at hi2; injection hi2 with hi2; subst hi2
  refine app_ok_gen hr hi hz hzl hsz h hx (Src := fun _ nn => nn = (Builtin.zeroCells zv.cells n).toList)
    (fun {zv'} hz1' {base} {sCap} => ?_) fun w2 _ => ⟨_, rfl, ?_⟩
  · rw [hz1] at hz1'
    injection hz1' with hz1'
    subst hz1'
    exact ⟨fun h1 h2 h3 => (run_append0 (ty := ty) hts0 hts1 hu0 hu1 hi hz1 hsz (base := base) (sLen := s.n) (sCap := sCap) hn hn63).1 h1 h2 h3, fun h1 h2 h3 h4 h5 => (run_append0 (ty := ty) hts0 hts1 hu0 hu1 hi hz1 hsz (base := base) (sLen := s.n) (sCap := sCap) hn hn63).2 h1 h2 h3 h4 h5⟩
  · obtain ⟨_, _, _, g3, g4⟩ := zeroOf_ok hz
    have hmem : ∀ v ∈ (List.replicate n z).flatten, v ∈ z := fun v hv => by
      obtain ⟨l, hl, hv⟩ := List.mem_flatten.1 hv
      rwa [List.eq_of_mem_replicate hl] at hv
    have hzc : (Builtin.zeroCells zv.cells n).toList = (List.replicate n z).flatten := by
      have hzs : zv.cells.size = z.length := by rw [← hz2]; simp
      have := zero_mod hz2 (by omega) n
      simp only [Builtin.zeroCells, hzs]
      rw [hzs] at this
      rw [this]
    rw [hzc]
    exact ⟨VRs.flat fun v hv => g3 v (hmem v hv), fun v hv => g4 v (hmem v hv), by simp [List.length_flatten, hzl]⟩
end
end Go.Rlm
end

section
namespace Go.Rlm
section
variable {P : Program} {m : RMap} {L : LHeap} {w : World}
theorem Rep.blk_cells (h : Rep P m L w) {r : Nat} {cs : List Value} {e : TypeId} {ro : Bool} {sp : Nat} (hr : L[r]? = some (.cells cs e ro sp)) {i : Info} (hi : m r = some i) :
    ∃ cp e' fz, w.heap[i.blk]? = some (.cells cp e' fz) := by
  obtain ⟨j, h1, h2⟩ := h.row _ _ _ _ _ hr
  rw [hi] at h1; injection h1 with h1; subst h1
  obtain ⟨cp, e', fz, h3, _⟩ := h2.there
  exact ⟨cp, e', fz, h3⟩
theorem Rep.blk_loop (h : Rep P m L w) {r f id : Nat} {env : Env} {st : LSt} (hr : L[r]? = some (.loop f id env st)) {i : Info} (hi : m r = some i) :
    ∃ lp, w.heap[i.blk]? = some (.loop lp) ∧ LoopRel P m f id env st lp := by
  obtain ⟨j, lp, h1, h2, h3⟩ := h.loops.row _ _ _ _ _ hr
  rw [hi] at h1; injection h1 with h1; subst h1
  exact ⟨lp, h2, h3⟩
theorem Rep.blk_map (h : Rep P m L w) {r : Nat} {es : MEnts} {ck : Nat} (hr : L[r]? = some (.map es ck)) {i : Info} (hi : m r = some i) :
    ∃ ms, w.heap[i.blk]? = some (.map ms ck) ∧ MapRel m es ms.toList := by
  obtain ⟨j, ms, h1, h2, h3⟩ := h.loops.mrow _ _ _ hr
  rw [hi] at h1; injection h1 with h1; subst h1
  exact ⟨ms, h2, h3⟩
theorem Rep.blk_mine (h : Rep P m L w) {r : Nat} (hr : mine L r) {i : Info} (hi : m r = some i) : (∃ cp e' fz, w.heap[i.blk]? = some (.cells cp e' fz)) ∨ ∃ o, asideO o = true ∧ w.heap[i.blk]? = some o := by
  rcases hr with ⟨cs, e, sp, hr⟩ | ⟨b, hb, hr⟩
  · exact .inl (h.blk_cells hr hi)
  · cases b with
    | cells _ _ _ _ => cases hb
    | dead => cases hb
    | loop f id env st =>
      obtain ⟨lp, h1, _⟩ := h.blk_loop hr hi
      exact .inr ⟨_, rfl, h1⟩
    | map es ck =>
      obtain ⟨ms, h1, _⟩ := h.blk_map hr hi
      exact .inr ⟨_, rfl, h1⟩
theorem Row.heap {m' : RMap} {w' : World} (hm : MExt m m') {i : Info} {cs : List Value} {e : TypeId} {ro : Bool} {sp : Nat} (h : Row P m w i cs e ro sp) (hw : w'.heap[i.blk]? = w.heap[i.blk]?) : Row P m' w' i cs e ro sp := by
  obtain ⟨cp, e', fz, h1, h2, h3⟩ := h.there
  exact ⟨⟨cp, e', fz, by rw [hw]; exact h1, fun j v hj => let ⟨v', q1, q2⟩ := h2 j v hj; ⟨v', q1, q2.mono hm⟩, h3⟩, h.ones⟩
/-- A map is made: one block more. -/
theorem Rep.pushMap (h : Rep P m L w) :
    Rep P (ins m L.length ⟨w.heap.size, 0, 0, 0⟩) (L ++ [.map [] 0]) { w with heap := w.heap.push (.map #[] 0) } ∧
    Tr m L w (ins m L.length ⟨w.heap.size, 0, 0, 0⟩) (L ++ [.map [] 0]) { w with heap := w.heap.push (.map #[] 0) } := by
  have hext := MExt.ins (m := m) (r := L.length) ⟨w.heap.size, 0, 0, 0⟩ (h.fresh _ (Nat.le_refl _))
  have hold : ∀ b, b < w.heap.size → ({ w with heap := w.heap.push (.map #[] 0) } : World).heap[b]? = w.heap[b]? := fun b hb => by
    show (w.heap.push _)[b]? = _
    rw [Array.getElem?_push, if_neg (by omega)]
  have hnew : ({ w with heap := w.heap.push (.map #[] 0) } : World).heap[w.heap.size]? = some (.map #[] 0) := by
    show (w.heap.push _)[_]? = _
    rw [Array.getElem?_push, if_pos rfl]
  have hins : ∀ r i, r < L.length → ins m L.length ⟨w.heap.size, 0, 0, 0⟩ r = some i → m r = some i := fun r i hr hm => by
    unfold Rlm.ins at hm
    rw [if_neg (by omega)] at hm
    exact hm
  have hself : ins m L.length ⟨w.heap.size, 0, 0, 0⟩ L.length = some ⟨w.heap.size, 0, 0, 0⟩ := by unfold Rlm.ins; rw [if_pos rfl]
  have hget : ∀ (r : Nat) (b : LBlk), (L ++ [LBlk.map [] 0])[r]? = some b → (r < L.length ∧ L[r]? = some b) ∨ (r = L.length ∧ b = .map [] 0) := fun r b hr => by
    rcases Nat.lt_trichotomy r L.length with h1 | h1 | h1
    · rw [List.getElem?_append_left h1] at hr; exact .inl ⟨h1, hr⟩
    · subst h1; rw [List.getElem?_append_right (Nat.le_refl _)] at hr; simp at hr; exact .inr ⟨rfl, hr.symm⟩
    · rw [List.getElem?_eq_none (by simp; omega)] at hr; cases hr
  have hown : ∀ r, own (L ++ [LBlk.map [] 0]) r → r < L.length ∧ own L r := fun r ⟨cs, e, sp, hr⟩ => by
    rcases hget _ _ hr with ⟨g1, g2⟩ | ⟨_, g⟩
    · exact ⟨g1, cs, e, sp, g2⟩
    · cases g
  refine ⟨⟨fun r hr => ?_, fun r cs e ro sp hr => ?_, fun r r' i i' h1 h2 hne h3 h4 => ?_, ⟨fun r f' id' env' st' hr => ?_, fun r r' f1 id1 env1 st1 f2 id2 env2 st2 i i' h1 h2 hne h3 h4 => ?_, fun r es ck hr => ?_, fun r r' es ck es' ck' i i' h1 h2 hne h3 h4 => ?_⟩⟩,
    ⟨hext, by simp, by show w.heap.size ≤ (w.heap.push _).size; simp, rfl, rfl, rfl, fun r i hr hi => ?_, fun b hb _ => hold b hb⟩⟩
  · simp at hr
    unfold Rlm.ins
    rw [if_neg (by omega)]
    exact h.fresh r (by omega)
  · rcases hget _ _ hr with ⟨g1, g2⟩ | ⟨_, g⟩
    · obtain ⟨i, h1, h2⟩ := h.row _ _ _ _ _ g2
      obtain ⟨cp, e', fz, h3⟩ := h.blk_cells g2 h1
      exact ⟨i, hext _ _ h1, h2.heap hext (hold _ (Array.getElem?_eq_some_iff.1 h3).1)⟩
    · cases g
  · obtain ⟨g1, g2⟩ := hown r h1
    obtain ⟨cs, e, ro, sp, h2⟩ := h2
    rcases hget _ _ h2 with ⟨g3, g4⟩ | ⟨_, g⟩
    · exact h.sep r r' i i' g2 ⟨_, _, _, _, g4⟩ hne (hins _ _ g1 h3) (hins _ _ g3 h4)
    · cases g
  · rcases hget _ _ hr with ⟨g1, g2⟩ | ⟨_, g⟩
    · obtain ⟨i, lp', h1, h2, h3⟩ := h.loops.row _ _ _ _ _ g2
      exact ⟨i, lp', hext _ _ h1, by rw [hold _ (Array.getElem?_eq_some_iff.1 h2).1]; exact h2, ⟨h3.code, h3.env.mono hext, h3.st⟩⟩
    · cases g
  · rcases hget _ _ h1 with ⟨g1, g2⟩ | ⟨_, g⟩
    · rcases hget _ _ h2 with ⟨g3, g4⟩ | ⟨_, g⟩
      · exact h.loops.sep _ _ _ _ _ _ _ _ _ _ _ _ g2 g4 hne (hins _ _ g1 h3) (hins _ _ g3 h4)
      · cases g
    · cases g
  · rcases hget _ _ hr with ⟨g1, g2⟩ | ⟨g1, g2⟩
    · obtain ⟨i, ms, h1, h2, h3⟩ := h.loops.mrow _ _ _ g2
      exact ⟨i, ms, hext _ _ h1, by rw [hold _ (Array.getElem?_eq_some_iff.1 h2).1]; exact h2, h3.mono hext⟩
    · subst g1
      injection g2 with g2 g3
      subst g2; subst g3
      exact ⟨_, _, hself, hnew, rfl, fun j k v b hj => by simp at hj⟩
  · rcases hget _ _ h1 with ⟨g1, g2⟩ | ⟨g1, g2⟩ <;> rcases hget _ _ h2 with ⟨g3, g4⟩ | ⟨g3, g4⟩
    · exact h.loops.msep _ _ _ _ _ _ _ _ g2 g4 hne (hins _ _ g1 h3) (hins _ _ g3 h4)
    · subst g3
      obtain ⟨ms, k1, _⟩ := h.blk_map g2 (hins _ _ g1 h3)
      have := (Array.getElem?_eq_some_iff.1 k1).1
      rw [hself] at h4; injection h4 with h4; subst h4
      simp only; omega
    · subst g1
      obtain ⟨ms, k1, _⟩ := h.blk_map g4 (hins _ _ g3 h4)
      have := (Array.getElem?_eq_some_iff.1 k1).1
      rw [hself] at h3; injection h3 with h3; subst h3
      simp only; omega
    · omega
  · rcases hr with hr | ⟨b, hb, hr⟩
    · obtain ⟨g1, g2⟩ := hown r hr
      exact .inl ⟨r, i, .inl g2, hins _ _ g1 hi, rfl⟩
    · rcases hget _ _ hr with ⟨g1, g2⟩ | ⟨g1, g2⟩
      · exact .inl ⟨r, i, .inr ⟨_, hb, g2⟩, hins _ _ g1 hi, rfl⟩
      · subst g1
        rw [hself] at hi; injection hi with hi; subst hi
        exact .inr (Nat.le_refl _)
/-- A map turns. -/
theorem Rep.setMap (h : Rep P m L w) {j : Nat} {es0 es : MEnts} {ck0 : Nat} (hj : L[j]? = some (.map es0 ck0)) {i : Info} (hi : m j = some i) {ms : Array MapEntry} {ck : Nat} (hb : MapRel m es ms.toList) :
    Rep P m (L.set j (.map es ck)) { w with heap := w.heap.setIfInBounds i.blk (.map ms ck) } ∧ Tr m L w m (L.set j (.map es ck)) { w with heap := w.heap.setIfInBounds i.blk (.map ms ck) } := by
  have hlt : j < L.length := (List.getElem?_eq_some_iff.1 hj).1
  obtain ⟨ms0, hheap, hrel0⟩ := h.blk_map hj hi
  have hsz : i.blk < w.heap.size := (Array.getElem?_eq_some_iff.1 hheap).1
  have hget : ∀ (r : Nat) (c : LBlk), (L.set j (LBlk.map es ck))[r]? = some c → (r = j ∧ c = .map es ck) ∨ (r ≠ j ∧ L[r]? = some c) := fun r c hr => by
    by_cases hrj : j = r
    · subst hrj; rw [List.getElem?_set_self hlt] at hr; injection hr with hr; exact .inl ⟨rfl, hr.symm⟩
    · rw [List.getElem?_set_ne hrj] at hr; exact .inr ⟨fun e => hrj e.symm, hr⟩
  have hcells : ∀ (r : Nat) (cs : List Value) (e : TypeId) (ro : Bool) (sp : Nat), (L.set j (LBlk.map es ck))[r]? = some (.cells cs e ro sp) → L[r]? = some (.cells cs e ro sp) := fun r cs e ro sp hr => by
    rcases hget _ _ hr with ⟨_, g⟩ | ⟨_, g⟩
    · cases g
    · exact g
  have hloops : ∀ (r f id : Nat) (env : Env) (st : LSt), (L.set j (LBlk.map es ck))[r]? = some (.loop f id env st) → L[r]? = some (.loop f id env st) := fun r f id env st hr => by
    rcases hget _ _ hr with ⟨_, g⟩ | ⟨_, g⟩
    · cases g
    · exact g
  have hother : ∀ k, k ≠ i.blk → ({ w with heap := w.heap.setIfInBounds i.blk (.map ms ck) } : World).heap[k]? = w.heap[k]? := fun k hk => by
    show (w.heap.setIfInBounds _ _)[k]? = _
    rw [Array.getElem?_setIfInBounds, if_neg (fun e => hk e.symm)]
  have hsame : ({ w with heap := w.heap.setIfInBounds i.blk (.map ms ck) } : World).heap[i.blk]? = some (.map ms ck) := by
    show (w.heap.setIfInBounds _ _)[i.blk]? = _
    rw [Array.getElem?_setIfInBounds, if_pos rfl, if_pos hsz]
  refine ⟨⟨fun r hr => h.fresh r (by simpa using hr), fun r cs e ro sp hr => ?_, fun r r' i1 i2 h1 h2 hne h3 h4 => ?_, ⟨fun r f' id' env' st' hr => ?_, fun r r' f1 id1 env1 st1 f2 id2 env2 st2 i1 i2 h1 h2 hne h3 h4 => ?_, fun r es' ck' hr => ?_, fun r r' es1 ck1 es2 ck2 i1 i2 h1 h2 hne h3 h4 => ?_⟩⟩,
    ⟨.refl m, by simp, by show w.heap.size ≤ (w.heap.setIfInBounds _ _).size; simp, rfl, rfl, rfl, fun r i' hr hi' => ?_, fun k hk hn => hother k fun e => hn j i (.inr ⟨_, rfl, hj⟩) hi e.symm⟩⟩
  · have hr := hcells _ _ _ _ _ hr
    obtain ⟨i', g1, g2⟩ := h.row _ _ _ _ _ hr
    obtain ⟨cp, e', fz, g3⟩ := h.blk_cells hr g1
    exact ⟨i', g1, g2.heap (.refl m) (hother _ fun e => by rw [e, hheap] at g3; cases g3)⟩
  · obtain ⟨cs, e, sp, h1⟩ := h1
    obtain ⟨cs', e', ro', sp', h2⟩ := h2
    exact h.sep r r' i1 i2 ⟨_, _, _, hcells _ _ _ _ _ h1⟩ ⟨_, _, _, _, hcells _ _ _ _ _ h2⟩ hne h3 h4
  · obtain ⟨i', lp', k1, k2, k3⟩ := h.loops.row _ _ _ _ _ (hloops _ _ _ _ _ hr)
    exact ⟨i', lp', k1, by rw [hother _ fun e => by rw [e, hheap] at k2; cases k2]; exact k2, k3⟩
  · exact h.loops.sep _ _ _ _ _ _ _ _ _ _ _ _ (hloops _ _ _ _ _ h1) (hloops _ _ _ _ _ h2) hne h3 h4
  · rcases hget _ _ hr with ⟨g1, g2⟩ | ⟨g1, g2⟩
    · subst g1
      injection g2 with g2 g3
      subst g2; subst g3
      exact ⟨i, ms, hi, hsame, hb⟩
    · obtain ⟨i', ms', k1, k2, k3⟩ := h.loops.mrow _ _ _ g2
      exact ⟨i', ms', k1, by rw [hother _ (h.loops.msep _ _ _ _ _ _ _ _ g2 hj g1 k1 hi)]; exact k2, k3⟩
  · have key : ∀ (r : Nat) (es' : MEnts) (ck' : Nat), (L.set j (LBlk.map es ck))[r]? = some (.map es' ck') → ∃ es3 ck3, L[r]? = some (.map es3 ck3) := fun r es' ck' hr => by
      rcases hget _ _ hr with ⟨g1, _⟩ | ⟨_, g2⟩
      · subst g1; exact ⟨_, _, hj⟩
      · exact ⟨_, _, g2⟩
    obtain ⟨_, _, k1⟩ := key _ _ _ h1
    obtain ⟨_, _, k2⟩ := key _ _ _ h2
    exact h.loops.msep _ _ _ _ _ _ _ _ k1 k2 hne h3 h4
  · refine .inl ⟨r, i', ?_, hi', rfl⟩
    rcases hr with ⟨cs, e, sp, hr⟩ | ⟨c, hcA, hr⟩
    · exact .inl ⟨cs, e, sp, hcells _ _ _ _ _ hr⟩
    · rcases hget _ _ hr with ⟨g1, _⟩ | ⟨_, g2⟩
      · subst g1; exact .inr ⟨_, rfl, hj⟩
      · exact .inr ⟨_, hcA, g2⟩
theorem MapRel.cons {e : Value × Value × Nat} {es : MEnts} {y : MapEntry} {ms : List MapEntry} (h : MapRel m (e :: es) (y :: ms)) : y.key = e.1 ∧ VR m e.2.1 y.val ∧ y.born = e.2.2 ∧ MapRel m es ms := by
  obtain ⟨e0, h1, h2, h3, h4⟩ := h.2 0 e.1 e.2.1 e.2.2 (by simp)
  simp at h1
  subst h1
  exact ⟨h2, h3, h4, by have := h.1; simpa using this, fun j k v b hj => by have := h.2 (j + 1) k v b (by simpa using hj); simpa using this⟩
theorem MapRel.cons' {e : Value × Value × Nat} {es : MEnts} {y : MapEntry} {ms : List MapEntry} (h1 : y.key = e.1) (h2 : VR m e.2.1 y.val) (h3 : y.born = e.2.2) (h : MapRel m es ms) : MapRel m (e :: es) (y :: ms) := by
  refine ⟨by simpa using h.1, fun j k v b hj => ?_⟩
  cases j with
  | zero => simp at hj; subst hj; exact ⟨y, by simp, h1, h2, h3⟩
  | succ j => simpa using h.2 j k v b (by simpa using hj)
theorem MapRel.push {k v v' : Value} {b : Nat} : ∀ {es : MEnts} {ms : List MapEntry}, MapRel m es ms → VR m v v' → MapRel m (es ++ [(k, v, b)]) (ms ++ [{ key := k, val := v', born := b }])
  | [], ms, h, hv => by
    have : ms = [] := List.eq_nil_of_length_eq_zero (by simpa using h.1.symm)
    subst this
    exact .cons' rfl hv rfl h
  | e :: es, ms, h, hv => by
    cases ms with
    | nil => have := h.1; simp at this
    | cons y ms =>
      obtain ⟨h1, h2, h3, h4⟩ := h.cons
      exact .cons' h1 h2 h3 (h4.push hv)
theorem MapRel.put {k v v' : Value} {b : Nat} (f : MapEntry → MapEntry) : ∀ {es : MEnts} {ms : List MapEntry} (i : Nat), MapRel m es ms → (∀ e, ms[i]? = some e → (f e).key = k ∧ (f e).val = v' ∧ (f e).born = b) → VR m v v' → MapRel m (es.set i (k, v, b)) (ms.modify i f)
  | [], ms, i, h, hf, hv => by
    have : ms = [] := List.eq_nil_of_length_eq_zero (by simpa using h.1.symm)
    subst this
    cases i <;> exact h
  | e :: es, ms, i, h, hf, hv => by
    cases ms with
    | nil => have := h.1; simp at this
    | cons y ms =>
      obtain ⟨h1, h2, h3, h4⟩ := h.cons
      cases i with
      | zero =>
        obtain ⟨g1, g2, g3⟩ := hf y (by simp)
        exact .cons' g1 (by rw [g2]; exact hv) g3 h4
      | succ i => exact .cons' h1 h2 h3 (h4.put f i (fun e he => hf e (by simpa using he)) hv)
theorem mfind_ok {d : TypeDesc} {k : Value} : ∀ {es : MEnts} {ms : List MapEntry} {i : Nat} {x : Option (Nat × Value × Nat)}, MapRel m es ms → mfind d k es i = some x →
    (x = none ∧ Instr.findNow d k ms i = some none) ∨ ∃ j v v' b e, x = some (i + j, v, b) ∧ Instr.findNow d k ms i = some (some (i + j, v')) ∧ VR m v v' ∧ ms[j]? = some e ∧ e.val = v' ∧ e.born = b ∧ Instr.sameNow d k e.key = some true
  | [], ms, i, x, hr, h => by
    have : ms = [] := List.eq_nil_of_length_eq_zero (by simpa using hr.1.symm)
    subst this
    simp only [mfind] at h
    injection h with h
    exact .inl ⟨h.symm, rfl⟩
  | e :: es, ms, i, x, hr, h => by
    cases ms with
    | nil => have := hr.1; simp at this
    | cons y ms =>
      obtain ⟨h2, h3, h4, hr'⟩ := hr.cons
      simp only [mfind] at h
      simp only [Instr.findNow, h2]
      cases hs : Instr.sameNow d k e.1 with
      | none => rw [hs] at h; cases h
      | some b =>
        rw [hs] at h
        cases b with
        | true =>
          simp only at h ⊢
          injection h with h
          exact .inr ⟨0, e.2.1, y.val, e.2.2, y, by rw [← h]; simp, by simp, h3, by simp, rfl, h4, by rw [h2]; exact hs⟩
        | false =>
          simp only at h ⊢
          rcases mfind_ok hr' h with ⟨g1, g2⟩ | ⟨j, v, v', b, e', g1, g2, g3, g4, g5, g6, g7⟩
          · exact .inl ⟨g1, g2⟩
          · refine .inr ⟨j + 1, v, v', b, e', ?_, ?_, g3, by simpa using g4, g5, g6, g7⟩
            · rw [g1, show i + 1 + j = i + (j + 1) by omega]
            · rw [g2, show i + 1 + j = i + (j + 1) by omega]
theorem mstamp_ok {n : Int} {v v' : Value} (hv : VR m v v') : ∀ {es es' : MEnts} {ms : List MapEntry}, MapRel m es ms → mstamp n v es = some es' →
    ∃ i, ms.findIdx? (fun e => (e.born : Int) == n) = some i ∧ MapRel m es' (ms.modify i fun e => { e with val := v' })
  | [], es', ms, hr, h => by cases h
  | e :: es, es', ms, hr, h => by
    cases ms with
    | nil => have := hr.1; simp at this
    | cons y ms =>
      obtain ⟨h2, h3, h4, hr'⟩ := hr.cons
      simp only [mstamp, cond_eq_ite] at h
      split at h
      · rename_i hb
        have hb := of_decide_eq_true hb
        injection h with h
        subst h
        refine ⟨0, by simp [List.findIdx?_cons, h4, hb], ?_⟩
        exact .cons' h2 hv h4 hr'
      · rename_i hb
        have hb : ¬ ((e.2.2 : Int) = n) := by simpa using hb
        cases hm : mstamp n v es with
        | none => rw [hm] at h; cases h
        | some es2 =>
          rw [hm] at h
          injection h with h
          subst h
          obtain ⟨i, g1, g2⟩ := mstamp_ok hv hr' hm
          refine ⟨i + 1, ?_, .cons' h2 h3 h4 g2⟩
          simp [List.findIdx?_cons, h4, hb, g1]
end
section
variable {P : Program} {env : Env} {L : LHeap} {o : Oper} {r : LR} {K : Value → LHeap → R}
theorem isKeyB_eq {m : RMap} {d : TypeDesc} {u u' : Value} (h : isKeyB d u = true) (hv : VR m u u') : u' = u := by
  cases d <;> cases u <;> simp only [isKeyB] at h <;> first | (cases h; done) | skip
  · exact hv.of_bool
  · exact hv.of_int
  · exact hv.of_string
theorem isKeyB_key {d : TypeDesc} {u : Value} (h : isKeyB d u = true) : MapKept.IsKey d u := by
  cases d <;> cases u <;> simp only [isKeyB] at h <;> first | (cases h; done) | skip
  · trivial
  · simpa [MapKept.IsKey] using h
  · trivial
theorem run_checkK {empty : Bool} {t : TypeId} {d : TypeDesc} {u : Value} (hu : P.underlying t = some d) (h : isKeyB d u = true) (w : World) : (Instr.checkKey empty 10000 t u).run P w = .ok () w :=
  MapKept.run_checkKey hu (isKeyB_key h) empty 9999
theorem sameNow_eq {d : TypeDesc} {u v : Value} (h : Instr.sameNow d u v = some true) : v = u := by
  unfold Instr.sameNow at h
  split at h
  · split at h
    · rename_i hk
      injection h with h
      rw [hk, eq_of_beq h]
    · cases h
  · injection h with h; rw [(MapKept.bytes_beq _ _).1 h]
  · injection h with h; rw [eq_of_beq h]
  · cases h
theorem zeroE_ok {m : RMap} {t : TypeId} {z : Value} (h : zeroE P t = some z) : (∀ w, (zeroValue t).run P w = .ok z w) ∧ VR m z z := by
  unfold zeroE at h
  split at h
  · rename_i cs hz
    simp only [cond_eq_ite] at h
    split at h
    case isFalse => cases h
    rename_i hf
    injection h with h
    subst h
    refine ⟨fun w => ?_, ?_⟩
    · cases hi : P.info? t with
      | none => rw [hi] at hz; cases hz
      | some i => rw [hi] at hz; simp only [Option.bind_some] at hz; simp [zeroValue, typeInfo, hi, hz]
    · exact VR.flat hf
  · rename_i z' _ hz
    simp only [cond_eq_ite] at h
    split at h
    case isFalse => cases h
    rename_i hf
    injection h with h
    subst h
    refine ⟨fun w => ?_, .flat1 hf⟩
    cases hi : P.info? t with
    | none => rw [hi] at hz; cases hz
    | some i => rw [hi] at hz; simp only [Option.bind_some] at hz; simp [zeroValue, typeInfo, hi, hz]
  · cases h
theorem lop_makeMap {t : TypeId} (ho : o.op = .makeMap t none) (h : lop P env L o K = some r) : Res P env L o K r := by
  obtain ⟨dst, op, ty, pos, after, guard⟩ := o
  simp only at ho
  subst ho
  simp only [lop] at h
  refine .write _ _ rfl h (fun K2 => by simp only [lop]) fun m w a hr he => ?_
  obtain ⟨h5, h6⟩ := hr.pushMap
  refine ⟨_, _, _, .inl ?_, .map (m := ins m L.length ⟨w.heap.size, 0, 0, 0⟩) (r := L.length) (i := ⟨w.heap.size, 0, 0, 0⟩) (by simp [ins]), h5, h6⟩
  simp only [execOp, Instr.makeMap, newObj]
  rfl
theorem mcells_some {p : Option Nat} {es : MEnts} {ck : Nat} (h : mcells L p = some (es, ck)) : (p = none ∧ es = []) ∨ ∃ r, p = some r ∧ L[r]? = some (.map es ck) := by
  cases p with
  | none => simp only [mcells] at h; injection h with h; injection h with h1 h2; exact .inl ⟨rfl, h1.symm⟩
  | some r =>
    simp only [mcells] at h
    split at h
    · rename_i es' ck' hr
      injection h with h
      injection h with h1 h2
      subst h1; subst h2
      exact .inr ⟨r, rfl, hr⟩
    · cases h
theorem VR.of_map {m : RMap} {r : Nat} {v' : Value} (h : VR m (.map (some r)) v') : ∃ i, m r = some i ∧ v' = .map (some i.blk) := by
  cases h with
  | flat1 h => simp [Rlm.flat1] at h
  | map h => exact ⟨_, h, rfl⟩
theorem VR.of_nilMap {m : RMap} {v' : Value} (h : VR m (.map none) v') : v' = .map none := by cases h; rfl
theorem lop_lookup {t : TypeId} {x y : Operand} {ok : Bool} (ho : o.op = .lookup t x y ok) (h : lop P env L o K = some r) : Res P env L o K r := by
  obtain ⟨dst, op, ty, pos, after, guard⟩ := o
  simp only at ho
  subst ho
  simp only [lop, ev_eq, obind_iff] at h
  obtain ⟨v, h1, u, h2, h3⟩ := h
  unfold mlookup at h3
  split at h3
  case h_2 => cases h3
  rename_i key e hu
  rw [obind_iff] at h3
  obtain ⟨d, hd, h3⟩ := h3
  rw [cond_iff] at h3
  obtain ⟨hk, h3⟩ := h3
  rw [obind_iff] at h3
  obtain ⟨z, hz, h3⟩ := h3
  rw [obind_iff] at h3
  obtain ⟨p, hp, h3⟩ := h3
  rw [obind_iff] at h3
  obtain ⟨⟨es, ck⟩, hm, h3⟩ := h3
  rw [obind_iff] at h3
  obtain ⟨⟨q, f⟩, hl, h3⟩ := h3
  obtain ⟨h4, h5⟩ := typed1_same h3
  have hv : v = .map p := by cases v <;> simp only [asM] at hp <;> first | (cases hp; done) | (injection hp with hp; rw [hp])
  subst hv
  have unf : ∀ K2, lop P env L ⟨dst, .lookup t x y ok, ty, pos, after, guard⟩ K2 = hif ok (K2 (.tuple #[q, .bool f]) L) (K2 q L) := fun K2 => by
    have h6 := fun K3 => h5 K3
    simp only [lop, ev_eq, h1, h2, obind_some, mlookup, hu, hd, hk, hif_true, hz, asM, hm, hl, h6]
  have core : ∀ (m : RMap) (w : World) (a : Act), Rep P m L w → ER m env a.tmps → ∃ q', (Instr.lookup t (a.eval x) (a.eval y) ok).run P w = .ok (if ok then .tuple #[q', .bool f] else q') w ∧ VR m q q' := fun m w a hr he => by
    have e1 := isKeyB_eq hk (he.eval h2)
    obtain ⟨z1, z2⟩ := zeroE_ok (m := m) hz
    have hx := he.eval h1
    have fin : ∀ ms : List MapEntry, MapRel m es ms → ∃ q', (Instr.findKey key u ms).run P w = .ok (match mfind d u es 0 with | some (some (i, _)) => some (i, q') | _ => none) w ∧ VR m q q' ∧ (f = false → q' = z) := fun ms hms => by
      unfold mlook at hl
      cases hf : mfind d u es 0 with
      | none => rw [hf] at hl; cases hl
      | some r0 =>
        rw [hf] at hl
        rcases mfind_ok hms hf with ⟨g1, g2⟩ | ⟨j, v, v', b, e', g1, g2, g3, g4, g5, g6, g7⟩
        · subst g1
          simp only at hl
          injection hl with hl
          injection hl with q1 q2
          subst q1; subst q2
          exact ⟨z, MapKept.run_findKey hd g2, z2, fun _ => rfl⟩
        · subst g1
          simp only at hl
          injection hl with hl
          injection hl with q1 q2
          subst q1; subst q2
          exact ⟨v', MapKept.run_findKey hd g2, g3, fun h => by cases h⟩
    have hfound : (f = true ∧ ∃ i x, mfind d u es 0 = some (some (i, x))) ∨ (f = false ∧ mfind d u es 0 = some none) := by
      unfold mlook at hl
      cases hf : mfind d u es 0 with
      | none => rw [hf] at hl; cases hl
      | some r0 =>
        rw [hf] at hl
        cases r0 with
        | none => simp only at hl; injection hl with hl; injection hl with q1 q2; exact .inr ⟨q2.symm, rfl⟩
        | some r0 =>
          obtain ⟨i, v, b⟩ := r0
          simp only at hl; injection hl with hl; injection hl with q1 q2; exact .inl ⟨q2.symm, i, (v, b), rfl⟩
    rw [e1]
    rcases mcells_some hm with ⟨e2, e3⟩ | ⟨rr, e2, e3⟩
    · subst e2; subst e3
      rw [hx.of_nilMap]
      obtain ⟨q', k1, k2, k3⟩ := fin [] ⟨rfl, fun j k v b hj => by simp at hj⟩
      rcases hfound with ⟨e4, i, xx, e5⟩ | ⟨e4, e5⟩
      · simp [mfind] at e5
      · rw [e5] at k1
        refine ⟨q', ?_, k2⟩
        rw [k3 e4]
        simp [Instr.lookup, run_underlying hu, run_checkK hd hk, k1, z1, e4]
    · subst e2
      obtain ⟨i, hi, hx'⟩ := hx.of_map
      obtain ⟨ms, k0, k00⟩ := hr.blk_map e3 hi
      rw [hx']
      obtain ⟨q', k1, k2, k3⟩ := fin ms.toList k00
      refine ⟨q', ?_, k2⟩
      rcases hfound with ⟨e4, i, xx, e5⟩ | ⟨e4, e5⟩
      · rw [e5] at k1
        simp [Instr.lookup, run_underlying hu, MapKept.run_getObj_map k0, run_checkK hd hk, k1, e4]
      · rw [e5] at k1
        rw [k3 e4]
        simp [Instr.lookup, run_underlying hu, MapKept.run_getObj_map k0, run_checkK hd hk, k1, z1, e4]
  cases ok with
  | true =>
    refine .read (.tuple #[q, .bool f]) (by simp [kindOf]) h4 (fun K2 => unf K2) fun m w a hr he => ?_
    obtain ⟨q', k1, k2⟩ := core m w a hr he
    exact ⟨.tuple #[q', .bool f], by simp [execOp, k1], .tuple (cs := [q, .bool f]) (cs' := [q', .bool f]) (.cons k2 (.cons (.flat1 rfl) .nil))⟩
  | false =>
    refine .read q (by simp [kindOf]) h4 (fun K2 => unf K2) fun m w a hr he => ?_
    obtain ⟨q', k1, k2⟩ := core m w a hr he
    exact ⟨q', by simp [execOp, k1], k2⟩
theorem toList_modify (ms : Array MapEntry) (i : Nat) (f : MapEntry → MapEntry) : (ms.modify i f).toList = ms.toList.modify i f := by simp
theorem lop_mapUpdate {t : TypeId} {x y z : Operand} (ho : o.op = .mapUpdate t x y z) (h : lop P env L o K = some r) : Res P env L o K r := by
  obtain ⟨dst, op, ty, pos, after, guard⟩ := o
  simp only at ho
  subst ho
  simp only [lop, ev_eq, obind_iff] at h
  obtain ⟨v, h1, u, h2, q, h3, h4⟩ := h
  unfold mupdate at h4
  split at h4
  case h_2 => cases h4
  rename_i key e hu
  rw [obind_iff] at h4
  obtain ⟨d, hd, h4⟩ := h4
  rw [cond_iff] at h4
  obtain ⟨hk, h4⟩ := h4
  rw [obind_iff] at h4
  obtain ⟨p, hp, h4⟩ := h4
  rw [obind_iff] at h4
  obtain ⟨j, hj, h4⟩ := h4
  rw [obind_iff] at h4
  obtain ⟨⟨es, ck⟩, hm, h4⟩ := h4
  rw [obind_iff] at h4
  obtain ⟨⟨es', ck'⟩, hl, h4⟩ := h4
  have hv : v = .map p := by cases v <;> simp only [asM] at hp <;> first | (cases hp; done) | (injection hp with hp; rw [hp])
  subst hv
  subst hj
  refine .write _ _ rfl h4 (fun K2 => by simp only [lop, ev_eq, h1, h2, h3, obind_some, mupdate, hu, hd, hk, hif_true, asM, hm, hl]) fun m w a hr he => ?_
  have e1 := isKeyB_eq hk (he.eval h2)
  obtain ⟨i, hi, hx'⟩ := (he.eval h1).of_map
  have hq := he.eval h3
  rcases mcells_some hm with ⟨e2, _⟩ | ⟨rr, e2, e3⟩
  · cases e2
  injection e2 with e2
  subst e2
  obtain ⟨ms, k0, k00⟩ := hr.blk_map e3 hi
  unfold mput at hl
  cases hf : mfind d u es 0 with
  | none => rw [hf] at hl; cases hl
  | some r0 =>
    rw [hf] at hl
    rcases mfind_ok k00 hf with ⟨g1, g2⟩ | ⟨jj, v, v', b, e', g1, g2, g3, g4, g5, g6, g7⟩
    · subst g1
      simp only at hl
      injection hl with hl
      injection hl with q1 q2
      subst q1; subst q2
      obtain ⟨h5, h6⟩ := hr.setMap e3 hi (ms := ms.push { key := u, val := a.eval z, born := ck }) (ck := ck + 1) (es := es ++ [(u, q, ck)]) (by rw [Array.toList_push]; exact k00.push hq)
      refine ⟨m, _, undef, .inr ⟨?_, rfl⟩, .undef, h5, h6⟩
      simp [execOp, hx', e1, Instr.mapUpdate, run_underlying hu, MapKept.run_getObj_map k0, run_checkK hd hk, MapKept.run_findKey hd g2, MapKept.run_setObj_map _ k0]
    · subst g1
      simp only [Nat.zero_add] at hl g2
      injection hl with hl
      injection hl with q1 q2
      subst q1; subst q2
      have hkey := sameNow_eq g7
      have hms : ms[jj]? = some e' := by simpa using g4
      obtain ⟨h5, h6⟩ := hr.setMap e3 hi (ms := ms.modify jj fun e => { e with key := u, val := a.eval z }) (ck := ck) (es := es.set jj (u, q, b)) (by
        rw [toList_modify]
        refine k00.put _ jj (fun e he => ?_) hq
        rw [g4] at he; injection he with he; subst he
        exact ⟨rfl, rfl, g6⟩)
      refine ⟨m, _, undef, .inr ⟨?_, rfl⟩, .undef, h5, h6⟩
      simp [execOp, hx', e1, Instr.mapUpdate, run_underlying hu, MapKept.run_getObj_map k0, run_checkK hd hk, MapKept.run_findKey hd g2, MapKept.run_setObj_map _ k0, hms, hkey, MapKept.run_keyThatStays (isKeyB_key hk)]
theorem lop_mapEntry {t : TypeId} {x y : Operand} (ho : o.op = .mapEntry t x y) (h : lop P env L o K = some r) : Res P env L o K r := by
  obtain ⟨dst, op, ty, pos, after, guard⟩ := o
  simp only at ho
  subst ho
  simp only [lop, ev_eq, obind_iff] at h
  obtain ⟨v, h1, u, h2, h4⟩ := h
  unfold mentryAt at h4
  split at h4
  case h_2 => cases h4
  rename_i key e hu
  rw [obind_iff] at h4
  obtain ⟨d, hd, h4⟩ := h4
  rw [cond_iff] at h4
  obtain ⟨hk, h4⟩ := h4
  rw [obind_iff] at h4
  obtain ⟨z, hz, h4⟩ := h4
  rw [obind_iff] at h4
  obtain ⟨p, hp, h4⟩ := h4
  rw [obind_iff] at h4
  obtain ⟨j, hj, h4⟩ := h4
  rw [obind_iff] at h4
  obtain ⟨⟨es, ck⟩, hm, h4⟩ := h4
  rw [obind_iff] at h4
  obtain ⟨⟨xv, xb, es', ck'⟩, hl, h4⟩ := h4
  obtain ⟨h5, h6⟩ := typed1_same h4
  have hv : v = .map p := by cases v <;> simp only [asM] at hp <;> first | (cases hp; done) | (injection hp with hp; rw [hp])
  subst hv
  subst hj
  refine .write _ _ rfl h5 (fun K2 => by
    have h7 := fun K3 => h6 K3
    simp only [lop, ev_eq, h1, h2, obind_some, mentryAt, hu, hd, hk, hz, hif_true, asM, hm, hl, h7]) fun m w a hr he => ?_
  have e1 := isKeyB_eq hk (he.eval h2)
  obtain ⟨i, hi, hx'⟩ := (he.eval h1).of_map
  obtain ⟨z1, z2⟩ := zeroE_ok (m := m) hz
  rcases mcells_some hm with ⟨e2, _⟩ | ⟨rr, e2, e3⟩
  · cases e2
  injection e2 with e2
  subst e2
  obtain ⟨ms, k0, k00⟩ := hr.blk_map e3 hi
  unfold mentry at hl
  cases hf : mfind d u es 0 with
  | none => rw [hf] at hl; cases hl
  | some r0 =>
    rw [hf] at hl
    rcases mfind_ok k00 hf with ⟨g1, g2⟩ | ⟨jj, v, v', b, e', g1, g2, g3, g4, g5, g6, g7⟩
    · subst g1
      simp only at hl
      injection hl with hl
      injection hl with q1 q2
      injection q2 with q2 q3
      injection q3 with q3 q4
      subst q1; subst q2; subst q3; subst q4
      obtain ⟨h5, h6⟩ := hr.setMap e3 hi (ms := ms.push { key := u, val := z, born := ck }) (ck := ck + 1) (es := es ++ [(u, z, ck)]) (by rw [Array.toList_push]; exact k00.push z2)
      refine ⟨m, _, .tuple #[z, .int .i64 ck], .inl ?_, .tuple (cs := [z, .int .i64 ck]) (cs' := [z, .int .i64 ck]) (.cons z2 (.cons (.flat1 rfl) .nil)), h5, h6⟩
      simp [execOp, hx', e1, Instr.mapEntry, run_underlying hu, MapKept.run_getObj_map k0, run_checkK hd hk, MapKept.run_findKey hd g2, MapKept.run_setObj_map _ k0, z1, goInt]
    · subst g1
      simp only [Nat.zero_add] at hl g2
      injection hl with hl
      injection hl with q1 q2
      injection q2 with q2 q3
      injection q3 with q3 q4
      subst q1; subst q2; subst q3; subst q4
      have hkey := sameNow_eq g7
      have hms : ms[jj]? = some e' := by simpa using g4
      obtain ⟨h5, h6⟩ := hr.setMap e3 hi (ms := ms.modify jj fun e => { e with key := u }) (ck := ck) (es := es.set jj (u, v, b)) (by
        rw [toList_modify]
        refine k00.put (v' := v') _ jj (fun e he => ?_) g3
        rw [g4] at he; injection he with he; subst he
        exact ⟨rfl, g5, g6⟩)
      refine ⟨m, _, .tuple #[v', .int .i64 b], .inl ?_, .tuple (cs := [v, .int .i64 b]) (cs' := [v', .int .i64 b]) (.cons g3 (.cons (.flat1 rfl) .nil)), h5, h6⟩
      simp [execOp, hx', e1, Instr.mapEntry, run_underlying hu, MapKept.run_getObj_map k0, run_checkK hd hk, MapKept.run_findKey hd g2, MapKept.run_setObj_map _ k0, hms, hkey, MapKept.run_keyThatStays (isKeyB_key hk), goInt, g6]
theorem lop_entryStore {t : TypeId} {x y z : Operand} (ho : o.op = .entryStore t x y z) (h : lop P env L o K = some r) : Res P env L o K r := by
  obtain ⟨dst, op, ty, pos, after, guard⟩ := o
  simp only at ho
  subst ho
  simp only [lop, ev_eq, obind_iff] at h
  obtain ⟨v, h1, u, h2, q, h3, h4⟩ := h
  unfold mstore at h4
  rw [obind_iff] at h4
  obtain ⟨p, hp, h4⟩ := h4
  rw [obind_iff] at h4
  obtain ⟨j, hj, h4⟩ := h4
  rw [obind_iff] at h4
  obtain ⟨⟨es, ck⟩, hm, h4⟩ := h4
  rw [obind_iff] at h4
  obtain ⟨n, hn, h4⟩ := h4
  rw [obind_iff] at h4
  obtain ⟨es', hl, h4⟩ := h4
  have hv : v = .map p := by cases v <;> simp only [asM] at hp <;> first | (cases hp; done) | (injection hp with hp; rw [hp])
  have hu : u = .int .i64 n := by
    cases u <;> simp only [asI] at hn <;> first | (cases hn; done) | skip
    split at hn
    · rename_i hk; injection hn with hn; rw [hk, hn]
    · cases hn
  subst hv
  subst hj
  subst hu
  refine .write _ _ rfl h4 (fun K2 => by simp only [lop, ev_eq, h1, h2, h3, obind_some, mstore, asM, hm, hl, asI_int]) fun m w a hr he => ?_
  have e1 := (he.eval h2).of_int
  obtain ⟨i, hi, hx'⟩ := (he.eval h1).of_map
  have hq := he.eval h3
  rcases mcells_some hm with ⟨e2, _⟩ | ⟨rr, e2, e3⟩
  · cases e2
  injection e2 with e2
  subst e2
  obtain ⟨ms, k0, k00⟩ := hr.blk_map e3 hi
  obtain ⟨ix, g1, g2⟩ := mstamp_ok hq k00 hl
  obtain ⟨h5, h6⟩ := hr.setMap e3 hi (ms := ms.modify ix fun e => { e with val := a.eval z }) (ck := ck) (es := es') (by rw [toList_modify]; exact g2)
  refine ⟨m, _, undef, .inr ⟨?_, rfl⟩, .undef, h5, h6⟩
  have g1' : ms.findIdx? (fun e => (e.born : Int) == n) = some ix := by rw [← g1]; cases ms; simp
  simp [execOp, hx', e1, Instr.entryStore, MapKept.run_getObj_map k0, MapKept.run_setObj_map _ k0, asInt, asIntOf, g1']
end
end Go.Rlm
end

section
namespace Go.Rlm
section
variable {P : Program} {L : LHeap}
/-- At a cell of a row that begins with objects of a type of n cells, one of that type lies at its head. -/
theorem liesAt_head {e : TypeId} (hc : 0 < P.cellsOf e) (count : Nat) (hn : 0 < count) : liesAt P P.depth e count 0 e 1 = true := by
  have hd : P.depth = (2 * (P.types.size + Made.depth) + 1) + 1 := rfl
  rw [hd]
  simp only [liesAt, Bool.or_eq_true]
  left
  rw [hd]
  have h0 : P.cellsOf e ≠ 0 := by omega
  have h1 : 0 + 1 ≤ count := hn
  simp [rowAt, h0, sameLayout]
  left
  omega
theorem cellsOf_info {t : TypeId} (hc : 0 < P.cellsOf t) : ∃ i, P.info? t = some i ∧ i.size = P.cellsOf t := by
  cases h : P.info? t with
  | none => simp [Program.cellsOf, h] at hc
  | some i => exact ⟨i, rfl, by simp [Program.cellsOf, h]⟩
theorem run_sizeOf_cells {t : TypeId} (hc : 0 < P.cellsOf t) (w : World) : (sizeOf t).run P w = .ok (P.cellsOf t) w := by
  obtain ⟨i, hi, hs⟩ := cellsOf_info hc
  simp [sizeOf, typeInfo, hi, hs]
theorem toU_ok {m : RMap} {w : World} (hr : Rep P m L w) {a b : Option Addr} (h : toU L a = some b) {x' : Value} (hx : VR m (.pointer a) x') {s d t : TypeId}
    (hs : P.underlying s = some (.pointer t)) (hd : P.underlying d = some .unsafePointer) (hc : 0 < P.cellsOf t) :
    b = a ∧ (∃ p, x' = .pointer p) ∧ (Conv.unsafePointer s d x').run P w = .ok x' w := by
  unfold toU at h
  split at h
  · injection h with h; subst h
    rw [hx.of_nilPtr]
    exact ⟨rfl, ⟨_, rfl⟩, by simp [Conv.unsafePointer, run_underlying hs, run_underlying hd]⟩
  · rename_i a
    split at h
    case h_2 => cases h
    rename_i v hv
    injection h with h; subst h
    obtain ⟨i, hi, rfl⟩ := hx.of_ptr
    refine ⟨rfl, ⟨_, rfl⟩, ?_⟩
    unfold cell at hv
    split at hv
    · cases hv
    rename_i hsp
    split at hv
    case h_2 => cases hv
    rename_i cs e ro sp hL
    obtain ⟨i2, hi2, hrow⟩ := hr.row _ _ _ _ _ hL
    rw [hi] at hi2; injection hi2 with hi2; subst hi2
    obtain ⟨cp, e', fz, hw, hcs, _⟩ := hrow.there
    obtain ⟨v', hv', _⟩ := hcs _ _ hv
    have hlt : i.base + a.off < cp.size := by
      rcases Nat.lt_or_ge (i.base + a.off) cp.size with h | h
      · exact h
      · rw [Array.getElem?_eq_none h] at hv'; cases hv'
    have hsh : w.shape? (i.at a).block = some (e', cp.size) := by simp [World.shape?, Info.at, hw]
    have hoff : (i.at a).off = i.base + a.off := by simp [Info.at]
    have hspot : (i.at a).spot = none := by simp [Info.at, hsp]
    have hn0 : ¬ P.cellsOf t = 0 := by omega
    have hge : ¬ cp.size ≤ (i.at a).off := by rw [hoff]; omega
    simp only [Conv.unsafePointer, Sem.run_bind, run_underlying hs, run_underlying hd, Result.andThen_ok, Conv.seenAt, viewAt, cellsIn, run_shape, hsh, Option.isSome_some, if_true, Sem.run_pure, run_sizeOf_cells hc]
    simp [hge, hn0, hspot, hsh]
theorem ofU_ok {m : RMap} {w : World} (hr : Rep P m L w) {u : TypeId} {a b : Option Addr} (h : ofU L u (P.cellsOf u) a = some b) {x' : Value} (hx : VR m (.pointer a) x') {s d : TypeId}
    (hs : P.underlying s = some .unsafePointer) (hd : P.underlying d = some (.pointer u)) :
    b = a ∧ (∃ p, x' = .pointer p) ∧ (Conv.unsafePointer s d x').run P w = .ok x' w := by
  unfold ofU at h
  split at h
  · injection h with h; subst h
    rw [hx.of_nilPtr]
    exact ⟨rfl, ⟨_, rfl⟩, by simp [Conv.unsafePointer, run_underlying hs, run_underlying hd]⟩
  · rename_i a
    split at h
    case h_2 => cases h
    rename_i cs e sp hsp hL
    simp only [cond_eq_ite, Bool.and_eq_true] at h
    split at h
    case isFalse => cases h
    rename_i hh
    injection h with h; subst h
    obtain ⟨⟨⟨h1, h2⟩, h3⟩, h4⟩ := hh
    have h1 := Nat.eq_of_beq_eq_true h1
    have h2 := Nat.eq_of_beq_eq_true h2
    have h3 := Nat.le_of_ble_eq_true h3
    have h4 : 0 < P.cellsOf u := Nat.le_of_ble_eq_true h4
    subst h2
    obtain ⟨i, hi, rfl⟩ := hx.of_ptr
    refine ⟨rfl, ⟨_, rfl⟩, ?_⟩
    obtain ⟨i2, hi2, hrow⟩ := hr.row _ _ _ _ _ hL
    rw [hi] at hi2; injection hi2 with hi2; subst hi2
    obtain ⟨cp, e', fz, hw, hcs, hro, _⟩ := hrow.there
    obtain ⟨hb, rfl, _⟩ := hro rfl
    have hlen : cs.length ≤ cp.size := by
      rcases Nat.lt_or_ge cp.size cs.length with h | h
      · obtain ⟨v', hv', _⟩ := hcs cp.size (cs[cp.size]) (List.getElem?_eq_getElem h)
        rw [hb, Nat.zero_add, Array.getElem?_eq_none (Nat.le_refl _)] at hv'; cases hv'
      · exact h
    have hsh : w.shape? (i.at a).block = some (e', cp.size) := by simp [World.shape?, Info.at, hw]
    have hoff : (i.at a).off = 0 := by simp [Info.at, hb, h1]
    have hspot : (i.at a).spot = none := by simp [Info.at, hsp]
    have hn0 : ¬ P.cellsOf e' = 0 := by omega
    have hcnt : 0 < cp.size / P.cellsOf e' := Nat.div_pos (by omega) h4
    have hl := liesAt_head h4 _ hcnt
    simp only [Conv.unsafePointer, Sem.run_bind, run_underlying hs, run_underlying hd, Result.andThen_ok, Conv.seenAt, viewAt, variablesAt, run_shape, hsh, Option.isSome_some, if_true, Sem.run_pure, run_sizeOf_cells h4]
    simp [hn0, hoff, hl, hsh]
theorem dataL_ok {m : RMap} {w : World} (hr : Rep P m L w) {esz : Nat} {sa : Option Addr} {n c : Nat} {b : Option Addr} (h : dataL L esz ⟨sa, n, c⟩ = some b) {x' : Value} (hx : VR m (.slice sa n c) x') (ts : Array TypeId) (ty : TypeId) :
    ∃ p, VR m (.pointer b) (.pointer p) ∧ (Builtin.unsafeSliceData_ ts ty #[x']).run P w = .ok (.pointer p) w := by
  unfold dataL at h
  cases sa with
  | none =>
    injection h with h; subst h
    rw [hx.of_nilSlice]
    exact ⟨none, .flat1 rfl, rfl⟩
  | some a =>
    simp only [cond_eq_ite] at h
    have hO : OPEN < LOOSE := by unfold OPEN LOOSE; omega
    split at h
    · rename_i hc
      have hc : c < OPEN := Nat.le_of_ble_eq_true hc
      split at h
      · rename_i hc0
        have hc0 : 0 < c := Nat.le_of_ble_eq_true hc0
        injection h with h; subst h
        rcases hx.of_slice with ⟨_, i, hi, e⟩ | ⟨h2, _⟩ | ⟨h2, _⟩
        · rw [e]
          exact ⟨_, .ptr hi, Lib.run_unsafeSliceData_row _ _ _ _ _ _ (by omega)⟩
        · omega
        · omega
      · cases h
    · split at h
      · rename_i _ hc
        have hc : c = OPEN := Nat.eq_of_beq_eq_true hc
        split at h
        case h_2 => cases h
        rename_i k hk
        split at h
        case isFalse => cases h
        rename_i hk0
        have hk0 : 0 < k := Nat.le_of_ble_eq_true hk0
        injection h with h; subst h
        rcases hx.of_slice with ⟨h2, _⟩ | ⟨_, i, hi, e⟩ | ⟨h2, _⟩
        · omega
        · rw [e]
          refine ⟨_, .ptr hi, Lib.run_unsafeSliceData_row _ _ _ _ _ _ ?_⟩
          unfold blen at hk
          split at hk
          · cases hk
          split at hk
          case h_2 => cases hk
          rename_i cs e2 ro sp hL
          simp only [cond_eq_ite, Bool.and_eq_true] at hk
          split at hk
          case isFalse => cases hk
          rename_i hh
          have h3 := Nat.eq_of_beq_eq_true hh.1
          have h4 : 0 < esz := Nat.le_of_ble_eq_true hh.2
          injection hk with hk
          obtain ⟨i2, hi2, hrow⟩ := hr.row _ _ _ _ _ hL
          rw [hi] at hi2; injection hi2 with hi2; subst hi2
          obtain ⟨cp, e', fz, hw, hcs, hro, hsp⟩ := hrow.there
          obtain ⟨hf, htop, hesz, _⟩ := hsp (by omega)
          subst hf
          obtain ⟨hb, _, _⟩ := hro rfl
          have hlen : cs.length ≤ cp.size := by
            rcases Nat.lt_or_ge cp.size cs.length with h | h
            · obtain ⟨v', hv', _⟩ := hcs cp.size (cs[cp.size]) (List.getElem?_eq_getElem h)
              rw [hb, Nat.zero_add, Array.getElem?_eq_none (Nat.le_refl _)] at hv'; cases hv'
            · exact h
          rw [htop, hesz, h3]
          have : (cs.length - a.off) / esz ≤ (cp.size - a.off) / esz := Nat.div_le_div_right (by omega)
          omega
        · omega
      · cases h
theorem run_loadInts (w : World) : ∀ (ns : List Int) (a : Addr) (acc : ByteArray), (∀ j x, ns[j]? = some x → w.cell? (a.add j) = some (.int .u8 x)) →
    (loadBytes a acc ns.length).run P w = .ok (ns.foldl (fun r n => r.push (UInt8.ofNat n.toNat)) acc) w
  | [], a, acc, _ => by simp [loadBytes]
  | x :: l, a, acc, h => by
    have h0 : w.cell? a = some (.int .u8 x) := by
      have := h 0 x rfl
      simpa [Addr.add] using this
    have ih := run_loadInts w l (a.add 1) (acc.push (UInt8.ofNat x.toNat)) (fun j y hy => by
      have := h (j + 1) y (by simpa using hy)
      have e : (a.add 1).add j = a.add (j + 1) := by
        unfold Addr.add
        by_cases hj : j = 0
        · subst hj; simp
        · simp [hj]; omega
      rw [e]; exact this)
    simp only [List.length_cons, loadBytes, Sem.run_bind, run_load, h0, Result.andThen, List.foldl_cons]
    exact ih
theorem Rep.freeze {m : RMap} {w : World} (h : Rep P m L w) {q : Nat} {i : Info} {cs : List Value} {e : TypeId} {sp : Nat} (hq : L[q]? = some (.cells cs e false sp)) (hi : m q = some i) (n : Nat) :
    Rep P m (L.set q (.cells cs e true 0)) (w.freeze ⟨i.blk, 0, none⟩ n) ∧ Tr m L w m (L.set q (.cells cs e true 0)) (w.freeze ⟨i.blk, 0, none⟩ n) := by
  have hlt : q < L.length := (List.getElem?_eq_some_iff.1 hq).1
  have hownq : own L q := ⟨cs, e, sp, hq⟩
  obtain ⟨i', g1, hrow⟩ := h.row _ _ _ _ _ hq
  rw [hi] at g1; injection g1 with g1; subst g1
  obtain ⟨cp, e', fz, hh, hcell, hro, hsp'⟩ := hrow.there
  have hold : ∀ b, b ≠ i.blk → (w.freeze ⟨i.blk, 0, none⟩ n).heap[b]? = w.heap[b]? := fun b hb => by
    unfold World.freeze
    split
    · rfl
    · simp only [Array.getElem?_modify]
      rw [if_neg (fun e => hb e.symm)]
  have hnew : ∃ fz', (w.freeze ⟨i.blk, 0, none⟩ n).heap[i.blk]? = some (.cells cp e' fz') := by
    unfold World.freeze
    split
    · exact ⟨fz, hh⟩
    · simp only [Array.getElem?_modify, if_true, hh, Option.map_some]
      exact ⟨_, rfl⟩
  have hsize : (w.freeze ⟨i.blk, 0, none⟩ n).heap.size = w.heap.size := by
    unfold World.freeze
    split <;> simp
  have hos : (w.freeze ⟨i.blk, 0, none⟩ n).os = w.os ∧ (w.freeze ⟨i.blk, 0, none⟩ n).tape = w.tape ∧ (w.freeze ⟨i.blk, 0, none⟩ n).output = w.output := by
    unfold World.freeze
    split <;> exact ⟨rfl, rfl, rfl⟩
  have hloop : ∀ (r : Nat) (b : LBlk), aside b = true → (L.set q (LBlk.cells cs e true 0))[r]? = some b → L[r]? = some b := fun r b hab hr => by
    by_cases hrr : q = r
    · subst hrr; rw [List.getElem?_set_self hlt] at hr; injection hr with hr; subst hr; cases hab
    · rw [List.getElem?_set_ne hrr] at hr; exact hr
  have hown : ∀ r, own (L.set q (LBlk.cells cs e true 0)) r → own L r := fun r hr => by
    rcases own_set hr with ⟨_, c1, c2, c3, c4⟩ | ⟨_, h⟩
    · injection c4 with _ _ c4 _; cases c4
    · exact h
  refine ⟨⟨fun r hr => h.fresh r (by simpa using hr), fun r ds e2 ro2 sp2 hr2 => ?_, fun r r' j j' h6 h7 h8 h9 h10 => ?_, h.loops.keep (.refl m) hloop fun b lp hab hb => ?_⟩, ?_⟩
  · by_cases hrr : q = r
    · subst hrr
      rw [List.getElem?_set_self hlt] at hr2
      injection hr2 with hr2; injection hr2 with e1 e2 e3 e4
      subst e1; subst e2; subst e3; subst e4
      obtain ⟨fz', hnew⟩ := hnew
      exact ⟨i, hi, ⟨⟨cp, e', fz', hnew, hcell, ⟨fun hf => Bool.noConfusion hf, fun hf => absurd rfl hf⟩⟩, hrow.ones⟩⟩
    · rw [List.getElem?_set_ne hrr] at hr2
      obtain ⟨j, h6, h7⟩ := h.row _ _ _ _ _ hr2
      have hne : j.blk ≠ i.blk := (h.sep q r i j hownq ⟨ds, e2, ro2, sp2, hr2⟩ hrr hi h6).symm
      refine ⟨j, h6, ⟨?_, h7.ones⟩⟩
      obtain ⟨cp2, e3, fz2, h8, h9⟩ := h7.there
      exact ⟨cp2, e3, fz2, by rw [hold _ hne]; exact h8, h9⟩
  · have o2 : live L r' := by
      by_cases hrr : q = r'
      · subst hrr; exact hownq.live
      · obtain ⟨c1, c2, c3, c4, c5⟩ := h7
        rw [List.getElem?_set_ne hrr] at c5
        exact ⟨c1, c2, c3, c4, c5⟩
    exact h.sep r r' j j' (hown r h6) o2 h8 h9 h10
  · rw [hold b fun e => by rw [e, hh] at hb; injection hb with hb; subst hb; cases hab]; exact hb
  · exact .of h (.refl m) (by simp) (by omega) hos.1 hos.2.1 hos.2.2 (fun r j h6 h7 => .inl ⟨r, j, hown r h6, h7, rfl⟩) (fun b _ hb2 => hold b fun e => hb2 q i hownq hi e.symm) hloop
theorem toBytes_ints : ∀ {cs : List Value} {acc s : ByteArray}, toBytes cs acc = some s → ∃ ns : List Int, cs = ns.map (Value.int .u8) ∧ s = ns.foldl (fun r n => r.push (UInt8.ofNat n.toNat)) acc
  | [], acc, s, h => by injection h with h; exact ⟨[], rfl, h.symm⟩
  | v :: cs, acc, s, h => by
    cases v with
    | int k n =>
      cases k with
      | u8 =>
        simp only [toBytes] at h
        obtain ⟨ns, h3, h4⟩ := toBytes_ints h
        exact ⟨n :: ns, by simp [h3], by simpa using h4⟩
      | _ => simp [toBytes] at h
    | _ => simp [toBytes] at h
theorem ustr_ok {m : RMap} {w : World} (hr : Rep P m L w) {u pt it ty : TypeId} {p : Option Addr} {n : Int} {r : ByteArray × LHeap} (h : ustr L u p n = some r) {x' : Value} (hx : VR m (.pointer p) x')
    (hp : P.underlying pt = some (.pointer u)) (hc : P.cellsOf u = 1) :
    ∃ w', (Builtin.unsafeString_ #[pt, it] ty #[x', .int .i64 n]).run P w = .ok (.string r.1) w' ∧ Rep P m r.2 w' ∧ Tr m L w m r.2 w' := by
  unfold ustr at h
  simp only [cond_eq_ite, decide_eq_true_eq] at h
  split at h
  · rename_i hn
    subst hn
    injection h with h; subst h
    obtain ⟨q, rfl⟩ : ∃ q, x' = .pointer q := by
      cases p with
      | none => exact ⟨_, hx.of_nilPtr⟩
      | some a => obtain ⟨i, _, e⟩ := hx.of_ptr; exact ⟨_, e⟩
    exact ⟨w, Lib.run_unsafeString_none _ _ _ _ _, hr, .refl m L w⟩
  · rename_i hn
    split at h
    · cases h
    rename_i a
    split at h
    case h_2 => cases h
    rename_i cs e sp hsp hL
    simp only [Bool.and_eq_true, decide_eq_true_eq] at h
    split at h
    case isFalse => cases h
    rename_i hh
    obtain ⟨⟨⟨⟨h1, h2⟩, h3⟩, h4⟩, h5⟩ := hh
    have h1 := Nat.eq_of_beq_eq_true h1
    have h2 := Nat.eq_of_beq_eq_true h2
    have h4 := Nat.le_of_ble_eq_true h4
    subst h2
    rw [Option.map_eq_some_iff] at h
    obtain ⟨s, hs, rfl⟩ := h
    obtain ⟨ns, hns, rfl⟩ := toBytes_ints hs
    obtain ⟨i, hi, rfl⟩ := hx.of_ptr
    obtain ⟨i2, hi2, hrow⟩ := hr.row _ _ _ _ _ hL
    rw [hi] at hi2; injection hi2 with hi2; subst hi2
    obtain ⟨cp, e', fz, hw, hcs, hro, _⟩ := hrow.there
    obtain ⟨hb, rfl, _⟩ := hro rfl
    have hlen : cs.length ≤ cp.size := by
      rcases Nat.lt_or_ge cp.size cs.length with h | h
      · obtain ⟨v', hv', _⟩ := hcs cp.size (cs[cp.size]) (List.getElem?_eq_getElem h)
        rw [hb, Nat.zero_add, Array.getElem?_eq_none (Nat.le_refl _)] at hv'; cases hv'
      · exact h
    have hnl : ns.length = n.toNat := by
      have := congrArg List.length hns
      simp at this; omega
    have hat : i.at a = ⟨i.blk, 0, none⟩ := by
      simp only [Info.at, hb, h1, hsp, Nat.zero_add]
    have hsh : w.shape? i.blk = some (e', cp.size) := by simp [World.shape?, hw]
    have hcell : ∀ j x, ns[j]? = some x → w.cell? ((⟨i.blk, 0, none⟩ : Addr).add j) = some (.int .u8 x) := fun j x hj => by
      have hjn : j < ns.length := (List.getElem?_eq_some_iff.1 hj).1
      have hcj : cs[j]? = some (.int .u8 x) := by
        have h6 : (cs.take n.toNat)[j]? = some (.int .u8 x) := by rw [hns, List.getElem?_map, hj]; rfl
        rw [List.getElem?_take, if_pos (by omega)] at h6
        exact h6
      obtain ⟨v', hv', hvr⟩ := hcs _ _ hcj
      rw [hb, Nat.zero_add, hvr.of_int] at hv'
      unfold Addr.add
      by_cases hj0 : j = 0
      · subst hj0; simp [World.cell?, hw, hv']
      · simp [hj0, World.cell?, hw, hv']
    have hlb := run_loadInts (P := P) w ns ⟨i.blk, 0, none⟩ .empty hcell
    have hlies := Lib.liesAt_bytes (P := P) hc (cp.size / P.cellsOf e') ns.length (by rw [hc]; simp; omega)
    obtain ⟨g1, g2⟩ := hr.freeze hL hi ns.length
    refine ⟨_, ?_, g1, g2⟩
    rw [hat]
    have hnn : n = (ns.length : Int) := by omega
    have h5' : ¬ (9223372036854775807 : Int) < (ns.length : Int) := by unfold maxI at h5; omega
    have hneg : ¬ (ns.length : Int) < 0 := by omega
    have hl0 : ns.length ≠ 0 := by omega
    have hl1 : ns ≠ [] := fun e => hl0 (by rw [e]; rfl)
    have hmax : IntKind.i64.max = 9223372036854775807 := rfl
    have hdef : Builtin.unsafeString_ #[pt, it] ty #[.pointer (some ⟨i.blk, 0, none⟩), .int .i64 ns.length] =
        (do
          let n ← asInt (.int .i64 ns.length)
          if n < 0 then runtimePanic (.error "unsafe.String: len out of range")
          if n > IntKind.i64.max then unsupported (.unsafePointer "String: a length above the largest int")
          if n = 0 then pure (.string .empty)
          else if ← variablesAt ⟨i.blk, 0, none⟩ (← elemOf pt) n.toNat then do
            let s ← loadBytes ⟨i.blk, 0, none⟩ .empty n.toNat
            freeze ⟨i.blk, 0, none⟩ n.toNat
            pure (.string s)
          else unsupported (.unsafePointer "String: not so many bytes at ptr")) := rfl
    rw [hnn, hdef]
    simp [asInt, asIntOf, hmax, h5', hneg, hl0, hl1, variablesAt, hsh, elemOf, run_underlying hp, hlies, hlb]
end
end Go.Rlm
end

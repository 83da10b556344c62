/- The logical machine: values of the model over small named blocks, a run that is a function. Definitions alone; the proofs that the model does the same stand in the texts behind this one. -/
import Derived.Calls
namespace Go.Rlm

/-- A block: a row of cells (ro: it is only read; sp: 0, or, where it is not known whether there is room behind its cells: how many cells an element takes), or one that may not be touched any more. -/
inductive LBlk where
  | cells (cs : List Value) (elem : TypeId) (ro : Bool) (sp : Nat)
  | map (es : List (Value × Value))
  | dead
  deriving Inhabited

abbrev LHeap := List LBlk

/-- A slice. c = OPEN: its capacity is not known, but it is no less than what its block is known to hold. c = LOOSE: an empty one of which nothing else is known. -/
structure Sl where
  a : Option Addr
  n : Nat
  c : Nat

def OPEN : Nat := 2 ^ 64
def LOOSE : Nat := 2 ^ 64 + 1

inductive LR where
  | ret (v : Value) (L : LHeap)
  | pan (v : Value) (L : LHeap)

abbrev R := Option LR

def obind {α : Type} (x : Option α) (f : α → R) : R :=
  match x with
  | some a => f a
  | none => none

def lbind (x : R) (f : Value → LHeap → R) : R :=
  match x with
  | some (.ret v L) => f v L
  | some (.pan v L) => some (.pan v L)
  | none => none

/-- The same where nothing may panic. -/
def lbindR (x : R) (f : Value → LHeap → R) : R :=
  match x with
  | some (.ret v L) => f v L
  | _ => none
@[simp] theorem lbindR_ret (v : Value) (L : LHeap) (f : Value → LHeap → R) : lbindR (some (.ret v L)) f = f v L := rfl

/-! A test of the machine's own: of greater height than 'when' and 'lif', so that it is laid open ahead of them. -/
def h0 : Unit := ()
def h1 : Unit := h0
def h2 : Unit := h1
def h3 : Unit := h2
def h4 : Unit := h3
def h5 : Unit := h4
def h6 : Unit := h5
def hif {α : Type} (b : Bool) (x y : α) : α := (fun _ : Unit => match b with | true => x | false => y) h6
theorem hif_eq {α : Type} (b : Bool) (x y : α) : hif b x y = cond b x y := by cases b <;> rfl
@[simp] theorem hif_true {α : Type} (x y : α) : hif true x y = x := rfl
@[simp] theorem hif_false {α : Type} (x y : α) : hif false x y = y := rfl

/-- Go on if it holds. -/
def when (b : Bool) (r : R) : R := bif b then r else none

@[simp] theorem obind_some {α : Type} (a : α) (f : α → R) : obind (some a) f = f a := rfl
@[simp] theorem obind_none {α : Type} (f : α → R) : obind none f = none := rfl
@[simp] theorem lbind_ret (v : Value) (L : LHeap) (f : Value → LHeap → R) : lbind (some (.ret v L)) f = f v L := rfl
@[simp] theorem lbind_pan (v : Value) (L : LHeap) (f : Value → LHeap → R) : lbind (some (.pan v L)) f = some (.pan v L) := rfl
@[simp] theorem when_true (r : R) : when true r = r := rfl
@[simp] theorem when_false (r : R) : when false r = none := rfl

/-! ### Cells -/

def cell (L : LHeap) (a : Addr) : Option Value :=
  match a.spot with
  | some _ => none
  | none =>
    match L[a.block]? with
    | some (.cells cs _ _ _) => cs[a.off]?
    | _ => none

/-- n cells from an address on. -/
def cellsAt (L : LHeap) (a : Addr) (n : Nat) : Option (List Value) :=
  match a.spot with
  | some _ => none
  | none =>
    match L[a.block]? with
    | some (.cells cs _ _ _) => bif Nat.ble (a.off + n) cs.length then some ((cs.drop a.off).take n) else none
    | _ => none

def setAll : List Value → Nat → List Value → List Value
  | cs, _, [] => cs
  | cs, o, v :: vs => setAll (cs.set o v) (o + 1) vs

/-- Cells are written from an address on. -/
def stores (L : LHeap) (a : Addr) (vs : List Value) : Option LHeap :=
  match a.spot with
  | some _ => none
  | none =>
    match L[a.block]? with
    | some (.cells cs e false sp) =>
      bif Nat.ble (a.off + vs.length) cs.length then some (L.set a.block (.cells (setAll cs a.off vs) e false sp)) else none
    | _ => none

/-- How many elements from an address on a block is known to hold; elements of another size: none. -/
def blen (L : LHeap) (a : Addr) (esz : Nat) : Option Nat :=
  match a.spot with
  | some _ => none
  | none =>
    match L[a.block]? with
    | some (.cells cs _ _ sp) => bif Nat.beq sp esz && Nat.blt 0 esz then some ((cs.length - a.off) / esz) else none
    | _ => none

/-! ### What a value is -/

def asI (k : IntKind) : Value → Option Int
  | .int k' n => if k' = k then some n else none
  | _ => none
def asB : Value → Option Bool
  | .bool b => some b
  | _ => none
def asS : Value → Option ByteArray
  | .string s => some s
  | _ => none
def asP : Value → Option (Option Addr)
  | .pointer a => some a
  | _ => none
def asSl : Value → Option Sl
  | .slice a n c => some ⟨a, n, c⟩
  | _ => none
def asM : Value → Option (Option Nat)
  | .map r => some r
  | _ => none
def asAgg : Value → Option (Array Value)
  | .agg cs => some cs
  | _ => none
def aggL (n : Nat) : Value → Option (List Value)
  | .agg cs => bif Nat.beq cs.toList.length n then some cs.toList else none
  | _ => none
def tupL : Value → Option (List Value)
  | .tuple vs => some vs.toList
  | _ => none
def uncons (l : List Value) (f : Value → List Value → R) : R :=
  match l with
  | x :: xs => f x xs
  | [] => none

@[simp] theorem asI_int (k : IntKind) (n : Int) : asI k (.int k n) = some n := by simp [asI]
@[simp] theorem asB_bool (b : Bool) : asB (.bool b) = some b := rfl
@[simp] theorem asS_string (s : ByteArray) : asS (.string s) = some s := rfl
@[simp] theorem asP_pointer (a : Option Addr) : asP (.pointer a) = some a := rfl
@[simp] theorem asSl_slice (a : Option Addr) (n c : Nat) : asSl (.slice a n c) = some ⟨a, n, c⟩ := rfl
@[simp] theorem asM_map (r : Option Nat) : asM (.map r) = some r := rfl
@[simp] theorem asAgg_agg (cs : Array Value) : asAgg (.agg cs) = some cs := rfl
@[simp] theorem tupL_tuple (vs : Array Value) : tupL (.tuple vs) = some vs.toList := rfl
@[simp] theorem uncons_cons (x : Value) (xs : List Value) (f : Value → List Value → R) : uncons (x :: xs) f = f x xs := rfl

/-- What stands in one cell. -/
def one : Value → Bool
  | .agg _ | .tuple _ => false
  | _ => true

def cellsOf : Value → Option (List Value)
  | .agg cs => some cs.toList
  | .tuple _ => none
  | v => some [v]

/-- The kinds of single cells. -/
inductive Leaf where
  | i (k : IntKind) | b | s | p | sl | m | raw
  deriving DecidableEq

def leaves (P : Program) : Nat → TypeId → Option (List Leaf)
  | 0, _ => none
  | d + 1, t =>
    match P.underlying t with
    | some (.int k) => some [.i k]
    | some .bool => some [.b]
    | some .string => some [.s]
    | some (.pointer _) => some [.p]
    | some (.slice _) => some [.sl]
    | some (.map _ _) => some [.m]
    | some (.func _ _ _) | some (.interface _) => some [.raw]
    | some (.struct fs) => fs.toList.foldr (fun f acc => match leaves P d f.type, acc with | some x, some y => some (x ++ y) | _, _ => none) (some [])
    | some (.array n e) => bif Nat.ble n 8 then (leaves P d e).map fun l => (List.replicate n l).flatten else none
    | _ => none

/-- A cell's value, its kind laid open. -/
def leaf (l : Leaf) (x : Option Value) (K : Value → R) : R :=
  match l with
  | .i k => obind (x.bind (asI k)) fun n => K (.int k n)
  | .b => obind (x.bind asB) fun b => K (.bool b)
  | .s => obind (x.bind asS) fun s => K (.string s)
  | .p => obind (x.bind asP) fun a => K (.pointer a)
  | .sl => obind (x.bind asSl) fun s => K (.slice s.a s.n s.c)
  | .m => obind (x.bind asM) fun r => K (.map r)
  | .raw => obind x K

def ldLeaves (L : LHeap) (a : Addr) : List Leaf → Nat → (List Value → R) → R
  | [], _, K => K []
  | l :: ls, j, K => leaf l (cell L (a.add j)) fun v => ldLeaves L a ls (j + 1) fun vs => K (v :: vs)

def isAggT (P : Program) (t : TypeId) : Bool :=
  match P.underlying t with
  | some (.struct _) | some (.array _ _) => true
  | _ => false

def loadT (P : Program) (t : TypeId) (L : LHeap) (a : Addr) (K : Value → R) : R :=
  hif (isAggT P t)
    (match leaves P 20 t with
    | some ls => hif (Nat.beq ls.length (P.cellsOf t)) (ldLeaves L a ls 0 fun vs => K (.agg vs.toArray)) none
    | none => obind (cellsAt L a (P.cellsOf t)) fun cs => K (.agg cs.toArray))
    (match leaves P 20 t with
    | some [l] => leaf l (cell L a) K
    | _ => none)

def unLeaves : List Leaf → List Value → (List Value → R) → R
  | [], _, K => K []
  | l :: ls, vs, K => uncons vs fun v vs => leaf l (some v) fun x => unLeaves ls vs fun xs => K (x :: xs)

/-- A value of a type, its kind laid open. -/
def typed1 (P : Program) (t : TypeId) (v : Value) (K : Value → R) : R :=
  hif (isAggT P t)
    (match leaves P 20 t with
    | some ls => obind (aggL ls.length v) fun cs => unLeaves ls cs fun xs => K (.agg xs.toArray)
    | none => obind (asAgg v) fun cs => K (.agg cs))
    (match leaves P 20 t with
    | some [l] => leaf l (some v) K
    | _ => K v)

/-- No more of them. -/
def nilL (l : List Value) (r : R) : R :=
  match l with
  | [] => r
  | _ => none
@[simp] theorem nilL_nil (r : R) : nilL [] r = r := rfl

def typedAll (P : Program) : List TypeId → List Value → (List Value → R) → R
  | [], vs, K => nilL vs (K [])
  | t :: ts, vs, K => uncons vs fun v vs => typed1 P t v fun x => typedAll P ts vs fun xs => K (x :: xs)

def typed (P : Program) (t : TypeId) (v : Value) (K : Value → R) : R :=
  match P.underlying t with
  | some (.tuple ts) => hif (ts.isEmpty) (K v) (obind (tupL v) fun vs => typedAll P ts.toList vs fun xs => K (.tuple xs.toArray))
  | _ => typed1 P t v K

/-! ### Slices -/

def addrN (a : Addr) (n : Nat) : Addr := { block := a.block, off := a.off + n, spot := none }

/-- The address of an element. -/
def idx (s : Sl) (i : Int) (esz : Nat) : Option Addr :=
  match s.a with
  | some a => bif decide (0 ≤ i) && decide (i < s.n) then some (a.add (i.toNat * esz)) else none
  | none => none

/-- A bound: what it is, no more than y; where it is left out: d, that must be no more than y. -/
def bound (x : Option Int) (d : Nat) (y : Nat) : Option Nat :=
  match x with
  | some i => bif decide (0 ≤ i) && decide (i ≤ y) then some i.toNat else none
  | none => bif Nat.ble d y then some d else none

/-- s[lo:hi:mx] -/
def cut (L : LHeap) (s : Sl) (lo hi mx : Option Int) (esz : Nat) : Option Sl :=
  bif Nat.blt s.c OPEN then do
    let m ← bound mx s.c s.c
    let h ← bound hi (bif mx.isSome then m + 1 else s.n) m
    let l ← bound lo 0 h
    some ⟨if m = l then s.a else s.a.map (·.add (l * esz)), h - l, m - l⟩
  else bif Nat.beq s.c OPEN then
    match s.a with
    | none => none
    | some a => do
      let e ← blen L a esz
      match mx with
      | some x => do
        let m ← bound (some x) 0 e
        let h ← bound hi (m + 1) m
        let l ← bound lo 0 h
        if m < OPEN then some ⟨some (if m = l then a else a.add (l * esz)), h - l, m - l⟩ else none
      | none => do
        let h ← bound hi s.n e
        let l ← bound lo 0 h
        if l = 0 then some ⟨some a, h, OPEN⟩
        else if l < e then some ⟨some (a.add (l * esz)), h - l, OPEN⟩
        else some ⟨some a, 0, LOOSE⟩
  else bif Nat.beq s.c LOOSE then
    match s.a with
    | none => none
    | some a => bif mx.isNone then do
        let h ← bound hi 0 0
        let _ ← bound lo 0 h
        some ⟨some a, 0, LOOSE⟩
      else none
  else none

/-- The cells of the first n elements. -/
def srcCells (L : LHeap) (s : Sl) (n esz : Nat) : Option (List Value) :=
  bif Nat.beq n 0 then some [] else
  match s.a with
  | some a => cellsAt L a (n * esz)
  | none => none

def byteCells (s : ByteArray) : List Value := s.data.toList.map fun b => .int .u8 b.toNat

/-- append: the elements' cells 'news', n elements; 'bytes' an element's bytes. -/
def app (L : LHeap) (e : TypeId) (esz bytes : Nat) (s : Sl) (n : Nat) (news : List Value) : Option (Sl × LHeap) :=
  let need := s.n + n
  bif Nat.blt s.c OPEN then
    bif Nat.ble need s.c then
      match s.a with
      | none => some (⟨none, need, s.c⟩, L)
      | some a => bif news.isEmpty then some (⟨some a, need, s.c⟩, L) else do
        let L' ← stores L (a.add (s.n * esz)) news
        some (⟨some a, need, s.c⟩, L')
    else bif Nat.ble (need * bytes) (2 ^ 47) && Nat.ble need (2 ^ 62) then do
      let old ← srcCells L s s.n esz
      some (⟨some ⟨L.length, 0, none⟩, need, OPEN⟩, L ++ [.cells (old ++ news) e false esz])
    else none
  else bif Nat.beq s.c OPEN then
    match s.a with
    | none => none
    | some a =>
      match blen L a esz with
      | none => none
      | some x =>
        bif Nat.ble need x then
          bif news.isEmpty then some (⟨some a, need, OPEN⟩, L) else do
          let L' ← stores L (a.add (s.n * esz)) news
          some (⟨some a, need, OPEN⟩, L')
        else bif Nat.ble (need * bytes) (2 ^ 47) && Nat.ble need (2 ^ 62) && Nat.beq a.off 0 && Nat.ble s.n x then
          match L[a.block]? with
          | some (.cells cs e' false _) =>
            bif Nat.beq e' e then
              some (⟨some ⟨L.length, 0, none⟩, need, OPEN⟩, (L.set a.block .dead) ++ [.cells (cs.take (s.n * esz) ++ news) e false esz])
            else none
          | _ => none
        else none
  else none

end Go.Rlm

/- The logical machine, its likeness to the model, and the contracts of the functions that the law calls. Printed by pack.py, a program of this work, out of its texts; what the law does not use is left out. -/
import Derived.Test.YtflhogapjmdkaaaPressRepeatsM2
import Derived.Test.YtflhogapjmdkaaaProg
import Derived.KernelRfl
section
set_option maxRecDepth 100000
set_option linter.unusedVariables false
namespace Go.Proofs.Ytflhogapjmdkaaa.X
open Go Go.Rlm
/-- (*hamper/huff.Coder).Put -/
noncomputable def f54 (k : Nat) (p0 : Option Addr) (p1 : Option Addr) (n2 : Int) (L : LHeap) : R :=
  lcall Proofs.Try.prog Proofs.Ytflhogapjmdkaaa.X.T k 54 [Value.pointer p0, Value.pointer p1, Value.int IntKind.i64 n2] L
/-- (*hamper/bits.Writer).Put -/
noncomputable def f57 (k : Nat) (p0 : Option Addr) (n1 : Int) (n2 : Int) (L : LHeap) : R :=
  lcall Proofs.Try.prog Proofs.Ytflhogapjmdkaaa.X.T k 57 [Value.pointer p0, Value.int IntKind.u32 n1, Value.int IntKind.i64 n2] L
/-- (*hamper/bits.Writer).Bytes -/
noncomputable def f58 (k : Nat) (p0 : Option Addr) (L : LHeap) : R :=
  lcall Proofs.Try.prog Proofs.Ytflhogapjmdkaaa.X.T k 58 [Value.pointer p0] L
/-- hamper/huff.New -/
noncomputable def f63 (k : Nat) (l0 : Sl) (L : LHeap) : R :=
  lcall Proofs.Try.prog Proofs.Ytflhogapjmdkaaa.X.T k 63 [Value.slice l0.a l0.n l0.c] L
/-- hamper/huff.Lengths -/
noncomputable def f75 (k : Nat) (l0 : Sl) (L : LHeap) : R :=
  lcall Proofs.Try.prog Proofs.Ytflhogapjmdkaaa.X.T k 75 [Value.slice l0.a l0.n l0.c] L
/-- hamper/huff.Codes -/
noncomputable def f80 (k : Nat) (l0 : Sl) (L : LHeap) : R :=
  lcall Proofs.Try.prog Proofs.Ytflhogapjmdkaaa.X.T k 80 [Value.slice l0.a l0.n l0.c] L
/-- hamper/huff.count -/
noncomputable def f81 (k : Nat) (l0 : Sl) (L : LHeap) : R :=
  lcall Proofs.Try.prog Proofs.Ytflhogapjmdkaaa.X.T k 81 [Value.slice l0.a l0.n l0.c] L
/-- slices.Clone[[]int,int] -/
noncomputable def f82 (k : Nat) (l0 : Sl) (L : LHeap) : R :=
  lcall Proofs.Try.prog Proofs.Ytflhogapjmdkaaa.X.T k 82 [Value.slice l0.a l0.n l0.c] L
/-- hamper/huff.firsts -/
noncomputable def f83 (k : Nat) (c0 : Array Value) (L : LHeap) : R :=
  lcall Proofs.Try.prog Proofs.Ytflhogapjmdkaaa.X.T k 83 [Value.agg c0] L
/-- slices.ContainsFunc[[]int,int] -/
noncomputable def f91 (k : Nat) (l0 : Sl) (v1 : Value) (L : LHeap) : R :=
  lcall Proofs.Try.prog Proofs.Ytflhogapjmdkaaa.X.T k 91 [Value.slice l0.a l0.n l0.c, v1] L
/-- hamper/huff.Lengths$1 -/
noncomputable def f92 (k : Nat) (n0 : Int) (L : LHeap) : R :=
  lcall Proofs.Try.prog Proofs.Ytflhogapjmdkaaa.X.T k 92 [Value.int IntKind.i64 n0] L
/-- hamper/huff.once -/
noncomputable def f93 (k : Nat) (l0 : Sl) (L : LHeap) : R :=
  lcall Proofs.Try.prog Proofs.Ytflhogapjmdkaaa.X.T k 93 [Value.slice l0.a l0.n l0.c] L
/-- slices.Max[[]int,int] -/
noncomputable def f94 (k : Nat) (l0 : Sl) (L : LHeap) : R :=
  lcall Proofs.Try.prog Proofs.Ytflhogapjmdkaaa.X.T k 94 [Value.slice l0.a l0.n l0.c] L
/-- hamper/huff.May -/
noncomputable def f98 (k : Nat) (l0 : Sl) (L : LHeap) : R :=
  lcall Proofs.Try.prog Proofs.Ytflhogapjmdkaaa.X.T k 98 [Value.slice l0.a l0.n l0.c] L
/-- slices.IndexFunc[[]int,int] -/
noncomputable def f100 (k : Nat) (l0 : Sl) (v1 : Value) (L : LHeap) : R :=
  lcall Proofs.Try.prog Proofs.Ytflhogapjmdkaaa.X.T k 100 [Value.slice l0.a l0.n l0.c, v1] L
/-- hamper/huff.once$1 -/
noncomputable def f101 (k : Nat) (r0 : Nat) (r1 : Nat) (L : LHeap) : R :=
  lcall Proofs.Try.prog Proofs.Ytflhogapjmdkaaa.X.T k 101 [Value.pointer (some (Addr.mk r0 0 none)), Value.pointer (some (Addr.mk r1 0 none))] L
/-- slices.Delete[[]int,int] -/
noncomputable def f102 (k : Nat) (l0 : Sl) (n1 : Int) (n2 : Int) (L : LHeap) : R :=
  lcall Proofs.Try.prog Proofs.Ytflhogapjmdkaaa.X.T k 102 [Value.slice l0.a l0.n l0.c, Value.int IntKind.i64 n1, Value.int IntKind.i64 n2] L
/-- hamper/huff.once$2 -/
noncomputable def f103 (k : Nat) (n0 : Int) (n1 : Int) (r2 : Nat) (r3 : Nat) (r4 : Nat) (L : LHeap) : R :=
  lcall Proofs.Try.prog Proofs.Ytflhogapjmdkaaa.X.T k 103
  [Value.int IntKind.i64 n0, Value.int IntKind.i64 n1, Value.pointer (some (Addr.mk r2 0 none)), Value.pointer (some (Addr.mk r3 0 none)), Value.pointer (some (Addr.mk r4 0 none))] L
theorem f54_eq (k : Nat) (p0 : Option Addr) (p1 : Option Addr) (n2 : Int) (L : LHeap) : Proofs.Ytflhogapjmdkaaa.X.f54 (k + 1) p0 p1 n2 L =
  lif (Option.isNone p0) (some (LR.ret (Value.int IntKind.i64 2) L))
  (lif (Option.isNone p1) (some (LR.ret (Value.int IntKind.i64 2) L))
    (lif (decide (n2 < 0)) (some (LR.ret (Value.int IntKind.i64 1) L))
      (obind p0 fun a3 =>
        obind (Option.bind (cell L (Addr.add a3 0)) asSl) fun l4 =>
          lif (decide (n2 ≥ (↑l4.n : Int))) (some (LR.ret (Value.int IntKind.i64 1) L))
            (obind p0 fun a5 =>
              obind (Option.bind (cell L (Addr.add a5 0)) asSl) fun l6 =>
                obind (idx l6 n2 1) fun a7 =>
                  obind (Option.bind (cell L a7) (asI IntKind.i64)) fun n8 =>
                    lif (n8 == 0) (some (LR.ret (Value.int IntKind.i64 1) L))
                      (obind p0 fun a9 =>
                        obind (Option.bind (cell L (Addr.add a9 1)) asSl) fun l10 =>
                          obind (idx l10 n2 1) fun a11 =>
                            obind (Option.bind (cell L a11) (asI IntKind.u32)) fun n12 =>
                              obind p0 fun a13 =>
                                obind (Option.bind (cell L (Addr.add a13 0)) asSl) fun l14 =>
                                  obind (idx l14 n2 1) fun a15 =>
                                    obind (Option.bind (cell L a15) (asI IntKind.i64)) fun n16 =>
                                      lbindR (Proofs.Ytflhogapjmdkaaa.X.f57 k p1 n12 n16 L) fun v17 L18 => obind (asI IntKind.i64 v17) fun n19 => some (LR.ret (Value.int IntKind.i64 n19) L18)))))) := by kernel_rfl
/-- slots 0, 1, 2, 26, 27 -/
noncomputable def f57_l6 (k : Nat) (j6 : Nat) (p41 : Option Addr) (n42 : Int) (n43 : Int) (n44 : Int) (n45 : Int) (L : LHeap) : R :=
  loopAt Proofs.Try.prog Proofs.Ytflhogapjmdkaaa.X.T 57 k [1, 1, 0, 1, 0] [] j6
  [(0, Value.pointer p41), (1, Value.int IntKind.u32 n42), (2, Value.int IntKind.i64 n43), (26, Value.int IntKind.i64 n44), (27, Value.int IntKind.i64 n45)] L
theorem f57_eq (k : Nat) (p0 : Option Addr) (n1 : Int) (n2 : Int) (L : LHeap) : Proofs.Ytflhogapjmdkaaa.X.f57 (k + 1) p0 n1 n2 L =
  lif (Option.isNone p0) (some (LR.ret (Value.int IntKind.i64 2) L))
  (lif (decide (n2 < 0)) (some (LR.ret (Value.int IntKind.i64 1) L))
    (lif (decide (n2 > 32)) (some (LR.ret (Value.int IntKind.i64 1) L))
      (when (!decide (n2 < 0))
        (lif (Int.fdiv (IntKind.wrap IntKind.u64 n1) (2 ^ min (Int.toNat n2) 64) != 0) (some (LR.ret (Value.int IntKind.i64 1) L)) (Proofs.Ytflhogapjmdkaaa.X.f57_l6 k k p0 n1 n2 n2 0 L))))) := by kernel_rfl
theorem f57_l6_eq (k : Nat) (j6 : Nat) (p0 : Option Addr) (n1 : Int) (n2 : Int) (n3 : Int) (n4 : Int) (L : LHeap) : Proofs.Ytflhogapjmdkaaa.X.f57_l6 k (j6 + 1) p0 n1 n2 n3 n4 L =
  lif (decide (n4 < n3))
  (obind p0 fun a5 =>
    obind (Option.bind (cell L (Addr.add a5 1)) (asI IntKind.i64)) fun n6 =>
      lif (Int.tmod n6 8 == 0)
        (obind p0 fun a7 =>
          obind (Option.bind (cell L (Addr.add a7 0)) asSl) fun l8 =>
            obind (srcOf (L ++ [LBlk.cells [Value.int IntKind.u8 0] 5 false 0]) Proofs.Try.prog.types[5].size 1 (Value.slice (some (Addr.mk (List.length L) 0 none)) 1 1)) fun x9 =>
              obind (app (L ++ [LBlk.cells [Value.int IntKind.u8 0] 5 false 0]) 5 Proofs.Try.prog.types[5].size Proofs.Try.prog.types[5].bytes l8 1 x9) fun x10 =>
                obind p0 fun a11 =>
                  obind (stores x10.snd (Addr.add a11 0) [Value.slice x10.fst.a x10.fst.n x10.fst.c]) fun L12 =>
                    when (!decide (IntKind.wrap IntKind.i64 (IntKind.wrap IntKind.i64 (n2 - 1) - n4) < 0))
                      (obind p0 fun a13 =>
                        obind (Option.bind (cell L12 (Addr.add a13 0)) asSl) fun l14 =>
                          obind p0 fun a15 =>
                            obind (Option.bind (cell L12 (Addr.add a15 0)) asSl) fun l16 =>
                              obind (idx l14 (IntKind.wrap IntKind.i64 ((↑l16.n : Int) - 1)) 1) fun a17 =>
                                obind (Option.bind (cell L12 a17) (asI IntKind.u8)) fun n18 =>
                                  obind p0 fun a19 =>
                                    obind (Option.bind (cell L12 (Addr.add a19 1)) (asI IntKind.i64)) fun n20 =>
                                      when (!decide (IntKind.wrap IntKind.i64 (7 - Int.tmod n20 8) < 0))
                                        (obind (idx l14 (IntKind.wrap IntKind.i64 ((↑l16.n : Int) - 1)) 1) fun a21 =>
                                          obind
                                            (stores L12 a21
                                              [Value.int IntKind.u8
                                                  (bitop BinOp.or IntKind.u8 n18
                                                    (IntKind.wrap IntKind.u8
                                                      (IntKind.wrap IntKind.u8
                                                          (bitop BinOp.and IntKind.u32 (Int.fdiv n1 (2 ^ min (Int.toNat (IntKind.wrap IntKind.i64 (IntKind.wrap IntKind.i64 (n2 - 1) - n4))) 32)) 1) *
                                                        2 ^ min (Int.toNat (IntKind.wrap IntKind.i64 (7 - Int.tmod n20 8))) 8)))])
                                            fun L22 =>
                                            obind p0 fun a23 =>
                                              obind (Option.bind (cell L22 (Addr.add a23 1)) (asI IntKind.i64)) fun n24 =>
                                                obind p0 fun a25 =>
                                                  obind (stores L22 (Addr.add a25 1) [Value.int IntKind.i64 (IntKind.wrap IntKind.i64 (n24 + 1))]) fun L26 =>
                                                    Proofs.Ytflhogapjmdkaaa.X.f57_l6 k j6 p0 n1 n2 n3 (IntKind.wrap IntKind.i64 (n4 + 1)) L26)))
        (when (!decide (IntKind.wrap IntKind.i64 (IntKind.wrap IntKind.i64 (n2 - 1) - n4) < 0))
          (obind p0 fun a27 =>
            obind (Option.bind (cell L (Addr.add a27 0)) asSl) fun l28 =>
              obind p0 fun a29 =>
                obind (Option.bind (cell L (Addr.add a29 0)) asSl) fun l30 =>
                  obind (idx l28 (IntKind.wrap IntKind.i64 ((↑l30.n : Int) - 1)) 1) fun a31 =>
                    obind (Option.bind (cell L a31) (asI IntKind.u8)) fun n32 =>
                      obind p0 fun a33 =>
                        obind (Option.bind (cell L (Addr.add a33 1)) (asI IntKind.i64)) fun n34 =>
                          when (!decide (IntKind.wrap IntKind.i64 (7 - Int.tmod n34 8) < 0))
                            (obind (idx l28 (IntKind.wrap IntKind.i64 ((↑l30.n : Int) - 1)) 1) fun a35 =>
                              obind
                                (stores L a35
                                  [Value.int IntKind.u8
                                      (bitop BinOp.or IntKind.u8 n32
                                        (IntKind.wrap IntKind.u8
                                          (IntKind.wrap IntKind.u8
                                              (bitop BinOp.and IntKind.u32 (Int.fdiv n1 (2 ^ min (Int.toNat (IntKind.wrap IntKind.i64 (IntKind.wrap IntKind.i64 (n2 - 1) - n4))) 32)) 1) *
                                            2 ^ min (Int.toNat (IntKind.wrap IntKind.i64 (7 - Int.tmod n34 8))) 8)))])
                                fun L36 =>
                                obind p0 fun a37 =>
                                  obind (Option.bind (cell L36 (Addr.add a37 1)) (asI IntKind.i64)) fun n38 =>
                                    obind p0 fun a39 =>
                                      obind (stores L36 (Addr.add a39 1) [Value.int IntKind.i64 (IntKind.wrap IntKind.i64 (n38 + 1))]) fun L40 =>
                                        Proofs.Ytflhogapjmdkaaa.X.f57_l6 k j6 p0 n1 n2 n3 (IntKind.wrap IntKind.i64 (n4 + 1)) L40))))
  (some (LR.ret (Value.int IntKind.i64 0) L)) := by kernel_rfl
theorem f58_eq (k : Nat) (p0 : Option Addr) (L : LHeap) : Proofs.Ytflhogapjmdkaaa.X.f58 (k + 1) p0 L =
  lif (Option.isNone p0) (some (LR.ret (Value.string (ByteArray.mk #[])) L))
  (obind p0 fun a1 => obind (Option.bind (cell L (Addr.add a1 0)) asSl) fun l2 => obind (bytesOf L l2) fun s3 => some (LR.ret (Value.string s3) L)) := by kernel_rfl
/-- slots 8, 31, 32, 33 -/
noncomputable def f63_l7 (k : Nat) (j7 : Nat) (r11 : Nat) (l12 : Sl) (n13 : Int) (n14 : Int) (L : LHeap) : R :=
  loopAt Proofs.Try.prog Proofs.Ytflhogapjmdkaaa.X.T 63 k [1, 1, 1, 1, 1, 0, 1, 0] [] j7
  [(8, Value.pointer (some (Addr.mk r11 0 none))), (31, Value.slice l12.a l12.n l12.c), (32, Value.int IntKind.i64 n13), (33, Value.int IntKind.i64 n14)] L
theorem f63_eq (k : Nat) (l0 : Sl) (L : LHeap) : Proofs.Ytflhogapjmdkaaa.X.f63 (k + 1) l0 L =
  lbind (Proofs.Ytflhogapjmdkaaa.X.f80 k l0 L) fun v1 L2 =>
  obind (tupL v1) fun x3 =>
    uncons x3 fun v4 vs5 =>
      obind (asSl v4) fun l6 =>
        uncons vs5 fun v7 vs8 =>
          obind (asI IntKind.i64 v7) fun n9 =>
            nilL vs8
              (lif (n9 != 0) (some (LR.ret (Value.tuple #[Value.pointer none, Value.int IntKind.i64 n9]) L2))
                (lbind (Proofs.Ytflhogapjmdkaaa.X.f81 k l0 L2) fun v10 L11 =>
                  obind (tupL v10) fun x12 =>
                    uncons x12 fun v13 vs14 =>
                      obind (Rlm.asAgg v13) fun x15 =>
                        uncons vs14 fun v16 vs17 =>
                          obind (asB v16) fun b18 =>
                            nilL vs17
                              (when (Nat.beq (List.length x15.toList) 16)
                                (obind
                                  (stores
                                    (L11 ++
                                      [LBlk.cells
                                          [Value.int IntKind.i64 0, Value.int IntKind.i64 0, Value.int IntKind.i64 0, Value.int IntKind.i64 0, Value.int IntKind.i64 0, Value.int IntKind.i64 0,
                                            Value.int IntKind.i64 0, Value.int IntKind.i64 0, Value.int IntKind.i64 0, Value.int IntKind.i64 0, Value.int IntKind.i64 0, Value.int IntKind.i64 0,
                                            Value.int IntKind.i64 0, Value.int IntKind.i64 0, Value.int IntKind.i64 0, Value.int IntKind.i64 0]
                                          137 false 0])
                                    (Addr.mk (List.length L11) 0 none) x15.toList)
                                  fun L19 =>
                                  lbindR (Proofs.Ytflhogapjmdkaaa.X.f82 k l0 L19) fun v20 L21 =>
                                    obind (asSl v20) fun l22 =>
                                      obind (cellsAt L21 (Addr.mk (List.length L11) 0 none) 16) fun x23 =>
                                        obind (cellsAt L19 (Addr.mk (List.length L11) 0 none) 16) fun x24 =>
                                          when (same (Value.agg (List.toArray x23)) (Value.agg (List.toArray x24)))
                                            (lbindR (Proofs.Ytflhogapjmdkaaa.X.f83 k (List.toArray x23) L21) fun v25 L26 =>
                                              obind (Rlm.asAgg v25) fun x27 =>
                                                when
                                                  (Nat.beq (List.length x27.toList)
                                                    (Program.cellsOf Proofs.Try.prog
                                                      #[Field.mk "lengths" 49 0 false "" "hamper/huff" 0, Field.mk "codes" 52 1 false "" "hamper/huff" 24,
                                                            Field.mk "first" 125 2 false "" "hamper/huff" 48, Field.mk "symbols" 126 18 false "" "hamper/huff" 112][2].type))
                                                  (Proofs.Ytflhogapjmdkaaa.X.f63_l7 k k (List.length L26) l0 (↑l0.n : Int) 0
                                                    (L26 ++
                                                      [LBlk.cells
                                                          (setAll
                                                            [Value.slice l22.a l22.n l22.c, Value.slice l6.a l6.n l6.c, Value.int IntKind.u32 0, Value.int IntKind.u32 0, Value.int IntKind.u32 0,
                                                              Value.int IntKind.u32 0, Value.int IntKind.u32 0, Value.int IntKind.u32 0, Value.int IntKind.u32 0, Value.int IntKind.u32 0,
                                                              Value.int IntKind.u32 0, Value.int IntKind.u32 0, Value.int IntKind.u32 0, Value.int IntKind.u32 0, Value.int IntKind.u32 0,
                                                              Value.int IntKind.u32 0, Value.int IntKind.u32 0, Value.int IntKind.u32 0, Value.slice none 0 0, Value.slice none 0 0,
                                                              Value.slice none 0 0, Value.slice none 0 0, Value.slice none 0 0, Value.slice none 0 0, Value.slice none 0 0, Value.slice none 0 0,
                                                              Value.slice none 0 0, Value.slice none 0 0, Value.slice none 0 0, Value.slice none 0 0, Value.slice none 0 0, Value.slice none 0 0,
                                                              Value.slice none 0 0, Value.slice none 0 0]
                                                            2 x27.toList)
                                                          128 false 0]))))))) := by kernel_rfl
theorem f63_l7_eq (k : Nat) (j7 : Nat) (r0 : Nat) (l1 : Sl) (n2 : Int) (n3 : Int) (L : LHeap) : Proofs.Ytflhogapjmdkaaa.X.f63_l7 k (j7 + 1) r0 l1 n2 n3 L =
  lif (decide (n3 < n2))
  (obind (idx l1 n3 1) fun a4 =>
    obind (Option.bind (cell L a4) (asI IntKind.i64)) fun n5 =>
      when (decide (0 ≤ n5))
        (when (decide (n5 < 16))
          (obind (Option.bind (cell L (Addr.add (Addr.add (Addr.mk r0 0 none) 18) (Int.toNat n5 * 1))) asSl) fun l6 =>
            obind (Option.bind (cell (L ++ [LBlk.cells [Value.int IntKind.i64 n3] 3 false 0]) (Addr.add (Addr.add (Addr.mk r0 0 none) 18) (Int.toNat n5 * 1))) asSl) fun l7 =>
              when (same (Value.slice l6.a l6.n l6.c) (Value.slice l7.a l7.n l7.c))
                (obind (srcOf (L ++ [LBlk.cells [Value.int IntKind.i64 n3] 3 false 0]) Proofs.Try.prog.types[3].size 1 (Value.slice (some (Addr.mk (List.length L) 0 none)) 1 1)) fun x8 =>
                  obind (app (L ++ [LBlk.cells [Value.int IntKind.i64 n3] 3 false 0]) 3 Proofs.Try.prog.types[3].size Proofs.Try.prog.types[3].bytes l6 1 x8) fun x9 =>
                    when (decide (0 ≤ n5))
                      (when (decide (n5 < 16))
                        (obind (stores x9.snd (Addr.add (Addr.add (Addr.mk r0 0 none) 18) (Int.toNat n5 * 1)) [Value.slice x9.fst.a x9.fst.n x9.fst.c]) fun L10 =>
                          Proofs.Ytflhogapjmdkaaa.X.f63_l7 k j7 r0 l1 n2 (IntKind.wrap IntKind.i64 (n3 + 1)) L10))))))
  (some (LR.ret (Value.tuple #[Value.pointer (some (Addr.mk r0 0 none)), Value.int IntKind.i64 0]) L)) := by kernel_rfl
/-- slots 4 -/
noncomputable def f75_l4 (k : Nat) (j4 : Nat) (l8 : Sl) (L : LHeap) : R :=
  loopAt Proofs.Try.prog Proofs.Ytflhogapjmdkaaa.X.T 75 k [1, 1, 1, 0] [] j4 [(4, Value.slice l8.a l8.n l8.c)] L
/-- slots 4, 28, 29 -/
noncomputable def f75_l8 (k : Nat) (j4_9 : Nat) (j8 : Nat) (l10 : Sl) (n11 : Int) (n12 : Int) (L : LHeap) : R :=
  loopAt Proofs.Try.prog Proofs.Ytflhogapjmdkaaa.X.T 75 k [1, 1, 1, 0, 0, 0, 1, 1, 1, 0] [j4_9] j8 [(4, Value.slice l10.a l10.n l10.c), (28, Value.int IntKind.i64 n11), (29, Value.int IntKind.i64 n12)]
  L
theorem f75_eq (k : Nat) (l0 : Sl) (L : LHeap) : Proofs.Ytflhogapjmdkaaa.X.f75 (k + 1) l0 L =
  lif (decide ((↑l0.n : Int) > 512)) (some (LR.ret (Value.tuple #[Value.slice none 0 0, Value.int IntKind.i64 1]) L))
  (lbind (Proofs.Ytflhogapjmdkaaa.X.f91 k l0 (Value.func (Fn.func 92) #[] #[]) L) fun v1 L2 =>
    obind (asB v1) fun b3 =>
      lif b3 (some (LR.ret (Value.tuple #[Value.slice none 0 0, Value.int IntKind.i64 1]) L2))
        (lbind (Proofs.Ytflhogapjmdkaaa.X.f82 k l0 L2) fun v4 L5 => obind (asSl v4) fun l6 => Proofs.Ytflhogapjmdkaaa.X.f75_l4 k k l6 L5)) := by kernel_rfl
theorem f75_l4_eq (k : Nat) (j4 : Nat) (l0 : Sl) (L : LHeap) : Proofs.Ytflhogapjmdkaaa.X.f75_l4 k (j4 + 1) l0 L =
  lbind (Proofs.Ytflhogapjmdkaaa.X.f93 k l0 L) fun v1 L2 =>
  obind (asSl v1) fun l3 =>
    lif ((↑l3.n : Int) == 0) (some (LR.ret (Value.tuple #[Value.slice l3.a l3.n l3.c, Value.int IntKind.i64 0]) L2))
      (lbind (Proofs.Ytflhogapjmdkaaa.X.f94 k l3 L2) fun v4 L5 =>
        obind (asI IntKind.i64 v4) fun n6 =>
          lif (decide (n6 ≤ 15)) (some (LR.ret (Value.tuple #[Value.slice l3.a l3.n l3.c, Value.int IntKind.i64 0]) L5)) (Proofs.Ytflhogapjmdkaaa.X.f75_l8 k j4 k l0 (↑l0.n : Int) 0 L5)) := by kernel_rfl
theorem f75_l8_eq (k : Nat) (j4_0 : Nat) (j8 : Nat) (l1 : Sl) (n2 : Int) (n3 : Int) (L : LHeap) : Proofs.Ytflhogapjmdkaaa.X.f75_l8 k j4_0 (j8 + 1) l1 n2 n3 L =
  lif (decide (n3 < n2))
  (obind (idx l1 n3 1) fun a4 =>
    obind (Option.bind (cell L a4) (asI IntKind.i64)) fun n5 =>
      obind (idx l1 n3 1) fun a6 =>
        obind (stores L a6 [Value.int IntKind.i64 (IntKind.wrap IntKind.i64 (Int.tdiv (IntKind.wrap IntKind.i64 (n5 + 1)) 2))]) fun L7 =>
          Proofs.Ytflhogapjmdkaaa.X.f75_l8 k j4_0 j8 l1 n2 (IntKind.wrap IntKind.i64 (n3 + 1)) L7)
  (Proofs.Ytflhogapjmdkaaa.X.f75_l4 k j4_0 l1 L) := by kernel_rfl
/-- slots 6, 7, 23, 24, 25 -/
noncomputable def f80_l7 (k : Nat) (j7 : Nat) (r12 : Nat) (l13 : Sl) (l14 : Sl) (n15 : Int) (n16 : Int) (L : LHeap) : R :=
  loopAt Proofs.Try.prog Proofs.Ytflhogapjmdkaaa.X.T 80 k [1, 1, 1, 1, 1, 0, 1, 0] [] j7
  [(6, Value.pointer (some (Addr.mk r12 0 none))), (7, Value.slice l13.a l13.n l13.c), (23, Value.slice l14.a l14.n l14.c), (24, Value.int IntKind.i64 n15), (25, Value.int IntKind.i64 n16)] L
theorem f80_eq (k : Nat) (l0 : Sl) (L : LHeap) : Proofs.Ytflhogapjmdkaaa.X.f80 (k + 1) l0 L =
  lbind (Proofs.Ytflhogapjmdkaaa.X.f98 k l0 L) fun v1 L2 =>
  obind (asB v1) fun b3 =>
    lif (!b3) (some (LR.ret (Value.tuple #[Value.slice none 0 0, Value.int IntKind.i64 4]) L2))
      (lbind (Proofs.Ytflhogapjmdkaaa.X.f81 k l0 L2) fun v4 L5 =>
        obind (tupL v4) fun x6 =>
          uncons x6 fun v7 vs8 =>
            obind (Rlm.asAgg v7) fun x9 =>
              uncons vs8 fun v10 vs11 =>
                obind (asB v10) fun b12 =>
                  nilL vs11
                    (when (Nat.beq (List.length x9.toList) 16)
                      (obind
                        (stores
                          (L5 ++
                            [LBlk.cells
                                [Value.int IntKind.i64 0, Value.int IntKind.i64 0, Value.int IntKind.i64 0, Value.int IntKind.i64 0, Value.int IntKind.i64 0, Value.int IntKind.i64 0,
                                  Value.int IntKind.i64 0, Value.int IntKind.i64 0, Value.int IntKind.i64 0, Value.int IntKind.i64 0, Value.int IntKind.i64 0, Value.int IntKind.i64 0,
                                  Value.int IntKind.i64 0, Value.int IntKind.i64 0, Value.int IntKind.i64 0, Value.int IntKind.i64 0]
                                137 false 0])
                          (Addr.mk (List.length L5) 0 none) x9.toList)
                        fun L13 =>
                        obind (cellsAt L13 (Addr.mk (List.length L5) 0 none) 16) fun x14 =>
                          lbind (Proofs.Ytflhogapjmdkaaa.X.f83 k (List.toArray x14) L13) fun v15 L16 =>
                            obind (Rlm.asAgg v15) fun x17 =>
                              when (Nat.beq (List.length x17.toList) 16)
                                (obind
                                  (stores
                                    (L16 ++
                                      [LBlk.cells
                                          [Value.int IntKind.u32 0, Value.int IntKind.u32 0, Value.int IntKind.u32 0, Value.int IntKind.u32 0, Value.int IntKind.u32 0, Value.int IntKind.u32 0,
                                            Value.int IntKind.u32 0, Value.int IntKind.u32 0, Value.int IntKind.u32 0, Value.int IntKind.u32 0, Value.int IntKind.u32 0, Value.int IntKind.u32 0,
                                            Value.int IntKind.u32 0, Value.int IntKind.u32 0, Value.int IntKind.u32 0, Value.int IntKind.u32 0]
                                          125 false 0])
                                    (Addr.mk (List.length L16) 0 none) x17.toList)
                                  fun L18 =>
                                  when (room (↑l0.n : Int) (↑l0.n : Int) Proofs.Try.prog.types[56].bytes)
                                    (Proofs.Ytflhogapjmdkaaa.X.f80_l7 k k (List.length L16) (Sl.mk (some (Addr.mk (List.length L18) 0 none)) (Int.toNat (↑l0.n : Int)) (Int.toNat (↑l0.n : Int))) l0
                                      (↑l0.n : Int) 0 (L18 ++ [LBlk.cells (List.flatten (List.replicate (Int.toNat (↑l0.n : Int)) [Value.int IntKind.u32 0])) 56 false 0])))))) := by kernel_rfl
theorem f80_l7_eq (k : Nat) (j7 : Nat) (r0 : Nat) (l1 : Sl) (l2 : Sl) (n3 : Int) (n4 : Int) (L : LHeap) : Proofs.Ytflhogapjmdkaaa.X.f80_l7 k (j7 + 1) r0 l1 l2 n3 n4 L =
  lif (decide (n4 < n3))
  (obind (idx l2 n4 1) fun a5 =>
    obind (Option.bind (cell L a5) (asI IntKind.i64)) fun n6 =>
      lif (decide (n6 > 0))
        (when (decide (0 ≤ n6))
          (when (decide (n6 < 16))
            (obind (Option.bind (cell L (Addr.add (Addr.mk r0 0 none) (Int.toNat n6 * 1))) (asI IntKind.u32)) fun n7 =>
              obind (idx l1 n4 1) fun a8 =>
                obind (stores L a8 [Value.int IntKind.u32 n7]) fun L9 =>
                  when (decide (0 ≤ n6))
                    (when (decide (n6 < 16))
                      (obind (Option.bind (cell L9 (Addr.add (Addr.mk r0 0 none) (Int.toNat n6 * 1))) (asI IntKind.u32)) fun n10 =>
                        when (decide (0 ≤ n6))
                          (when (decide (n6 < 16))
                            (obind (stores L9 (Addr.add (Addr.mk r0 0 none) (Int.toNat n6 * 1)) [Value.int IntKind.u32 (IntKind.wrap IntKind.u32 (n10 + 1))]) fun L11 =>
                              Proofs.Ytflhogapjmdkaaa.X.f80_l7 k j7 r0 l1 l2 n3 (IntKind.wrap IntKind.i64 (n4 + 1)) L11)))))))
        (Proofs.Ytflhogapjmdkaaa.X.f80_l7 k j7 r0 l1 l2 n3 (IntKind.wrap IntKind.i64 (n4 + 1)) L))
  (some (LR.ret (Value.tuple #[Value.slice l1.a l1.n l1.c, Value.int IntKind.i64 0]) L)) := by kernel_rfl
/-- slots 2, 6, 7, 8 -/
noncomputable def f81_l2 (k : Nat) (j2 : Nat) (r17 : Nat) (l18 : Sl) (n19 : Int) (n20 : Int) (L : LHeap) : R :=
  loopAt Proofs.Try.prog Proofs.Ytflhogapjmdkaaa.X.T 81 k [1, 0, 1, 0] [] j2
  [(2, Value.pointer (some (Addr.mk r17 0 none))), (6, Value.slice l18.a l18.n l18.c), (7, Value.int IntKind.i64 n19), (8, Value.int IntKind.i64 n20)] L
theorem f81_eq (k : Nat) (l0 : Sl) (L : LHeap) : Proofs.Ytflhogapjmdkaaa.X.f81 (k + 1) l0 L =
  Proofs.Ytflhogapjmdkaaa.X.f81_l2 k k (List.length L) l0 (↑l0.n : Int) 0
  (L ++
    [LBlk.cells
        [Value.int IntKind.i64 0, Value.int IntKind.i64 0, Value.int IntKind.i64 0, Value.int IntKind.i64 0, Value.int IntKind.i64 0, Value.int IntKind.i64 0, Value.int IntKind.i64 0,
          Value.int IntKind.i64 0, Value.int IntKind.i64 0, Value.int IntKind.i64 0, Value.int IntKind.i64 0, Value.int IntKind.i64 0, Value.int IntKind.i64 0, Value.int IntKind.i64 0,
          Value.int IntKind.i64 0, Value.int IntKind.i64 0]
        137 false 0]) := by kernel_rfl
theorem f81_l2_eq (k : Nat) (j2 : Nat) (r0 : Nat) (l1 : Sl) (n2 : Int) (n3 : Int) (L : LHeap) : Proofs.Ytflhogapjmdkaaa.X.f81_l2 k (j2 + 1) r0 l1 n2 n3 L =
  lif (decide (n3 < n2))
  (obind (idx l1 n3 1) fun a4 =>
    obind (Option.bind (cell L a4) (asI IntKind.i64)) fun n5 =>
      lif (decide (n5 < 0))
        (obind (cellsAt L (Addr.mk r0 0 none) 16) fun x6 =>
          when (Nat.beq (List.length x6) 16)
            (obind (stores L (Addr.mk r0 0 none) x6) fun L7 => obind (cellsAt L7 (Addr.mk r0 0 none) 16) fun x8 => some (LR.ret (Value.tuple #[Value.agg (List.toArray x8), Value.bool false]) L7)))
        (lif (decide (n5 > 15))
          (obind (cellsAt L (Addr.mk r0 0 none) 16) fun x9 =>
            when (Nat.beq (List.length x9) 16)
              (obind (stores L (Addr.mk r0 0 none) x9) fun L10 =>
                obind (cellsAt L10 (Addr.mk r0 0 none) 16) fun x11 => some (LR.ret (Value.tuple #[Value.agg (List.toArray x11), Value.bool false]) L10)))
          (when (decide (0 ≤ n5))
            (when (decide (n5 < 16))
              (obind (Option.bind (cell L (Addr.add (Addr.mk r0 0 none) (Int.toNat n5 * 1))) (asI IntKind.i64)) fun n12 =>
                when (decide (0 ≤ n5))
                  (when (decide (n5 < 16))
                    (obind (stores L (Addr.add (Addr.mk r0 0 none) (Int.toNat n5 * 1)) [Value.int IntKind.i64 (IntKind.wrap IntKind.i64 (n12 + 1))]) fun L13 =>
                      Proofs.Ytflhogapjmdkaaa.X.f81_l2 k j2 r0 l1 n2 (IntKind.wrap IntKind.i64 (n3 + 1)) L13)))))))
  (obind (cellsAt L (Addr.mk r0 0 none) 16) fun x14 =>
    when (Nat.beq (List.length x14) 16)
      (obind (stores L (Addr.mk r0 0 none) x14) fun L15 => obind (cellsAt L15 (Addr.mk r0 0 none) 16) fun x16 => some (LR.ret (Value.tuple #[Value.agg (List.toArray x16), Value.bool true]) L15))) := by kernel_rfl
theorem f82_eq (k : Nat) (l0 : Sl) (L : LHeap) : Proofs.Ytflhogapjmdkaaa.X.f82 (k + 1) l0 L =
  lif (Option.isNone l0.a) (some (LR.ret (Value.slice none 0 0) L))
  (obind (srcOf (L ++ [LBlk.cells [] 3 false 0]) Proofs.Try.prog.types[3].size l0.n (Value.slice l0.a l0.n l0.c)) fun x1 =>
    obind (app (L ++ [LBlk.cells [] 3 false 0]) 3 Proofs.Try.prog.types[3].size Proofs.Try.prog.types[3].bytes (Sl.mk (some (Addr.mk (List.length L) 0 none)) 0 0) l0.n x1) fun x2 =>
      some (LR.ret (Value.slice x2.fst.a x2.fst.n x2.fst.c) x2.snd)) := by kernel_rfl
/-- slots 1, 2, 3, 4 -/
noncomputable def f83_l3 (k : Nat) (j3 : Nat) (r9 : Nat) (r10 : Nat) (n11 : Int) (n12 : Int) (L : LHeap) : R :=
  loopAt Proofs.Try.prog Proofs.Ytflhogapjmdkaaa.X.T 83 k [1, 1, 0, 1, 0] [] j3
  [(1, Value.pointer (some (Addr.mk r9 0 none))), (2, Value.pointer (some (Addr.mk r10 0 none))), (3, Value.int IntKind.u32 n11), (4, Value.int IntKind.i64 n12)] L
theorem f83_eq (k : Nat) (c0 : Array Value) (L : LHeap) : Proofs.Ytflhogapjmdkaaa.X.f83 (k + 1) c0 L =
  Proofs.Ytflhogapjmdkaaa.X.f83_l3 k k (List.length L) (List.length (L ++ [LBlk.cells c0.toList 137 false 0])) 0 1
  (L ++ [LBlk.cells c0.toList 137 false 0] ++
    [LBlk.cells
        [Value.int IntKind.u32 0, Value.int IntKind.u32 0, Value.int IntKind.u32 0, Value.int IntKind.u32 0, Value.int IntKind.u32 0, Value.int IntKind.u32 0, Value.int IntKind.u32 0,
          Value.int IntKind.u32 0, Value.int IntKind.u32 0, Value.int IntKind.u32 0, Value.int IntKind.u32 0, Value.int IntKind.u32 0, Value.int IntKind.u32 0, Value.int IntKind.u32 0,
          Value.int IntKind.u32 0, Value.int IntKind.u32 0]
        125 false 0]) := by kernel_rfl
theorem f83_l3_eq (k : Nat) (j3 : Nat) (r0 : Nat) (r1 : Nat) (n2 : Int) (n3 : Int) (L : LHeap) : Proofs.Ytflhogapjmdkaaa.X.f83_l3 k (j3 + 1) r0 r1 n2 n3 L =
  lif (decide (n3 < 16))
  (when (decide (0 ≤ n3))
    (when (decide (n3 < 16))
      (obind (stores L (Addr.add (Addr.mk r1 0 none) (Int.toNat n3 * 1)) [Value.int IntKind.u32 n2]) fun L4 =>
        when (decide (0 ≤ n3))
          (when (decide (n3 < 16))
            (obind (Option.bind (cell L4 (Addr.add (Addr.mk r0 0 none) (Int.toNat n3 * 1))) (asI IntKind.i64)) fun n5 =>
              Proofs.Ytflhogapjmdkaaa.X.f83_l3 k j3 r0 r1 (IntKind.wrap IntKind.u32 (IntKind.wrap IntKind.u32 (n2 + IntKind.wrap IntKind.u32 n5) * 2)) (IntKind.wrap IntKind.i64 (n3 + 1)) L4)))))
  (obind (cellsAt L (Addr.mk r1 0 none) 16) fun x6 =>
    when (Nat.beq (List.length x6) 16) (obind (stores L (Addr.mk r1 0 none) x6) fun L7 => obind (cellsAt L7 (Addr.mk r1 0 none) 16) fun x8 => some (LR.ret (Value.agg (List.toArray x8)) L7))) := by kernel_rfl
theorem f91_eq (k : Nat) (l0 : Sl) (v1 : Value) (L : LHeap) : Proofs.Ytflhogapjmdkaaa.X.f91 (k + 1) l0 v1 L =
  lbind (Proofs.Ytflhogapjmdkaaa.X.f100 k l0 v1 L) fun v2 L3 => obind (asI IntKind.i64 v2) fun n4 => some (LR.ret (Value.bool (decide (n4 ≥ 0))) L3) := by kernel_rfl
theorem f92_eq (k : Nat) (n0 : Int) (L : LHeap) : Proofs.Ytflhogapjmdkaaa.X.f92 (k + 1) n0 L =
  lif (decide (n0 < 0)) (some (LR.ret (Value.bool true) L)) (some (LR.ret (Value.bool (decide (n0 > 1073741824))) L)) := by kernel_rfl
/-- slots 3, 4, 5, 15, 16, 17 -/
noncomputable def f93_l5 (k : Nat) (j5 : Nat) (r36 : Nat) (r37 : Nat) (r38 : Nat) (l39 : Sl) (n40 : Int) (n41 : Int) (L : LHeap) : R :=
  loopAt Proofs.Try.prog Proofs.Ytflhogapjmdkaaa.X.T 93 k [1, 1, 1, 1, 0, 1, 0] [] j5
  [(3, Value.pointer (some (Addr.mk r36 0 none))), (4, Value.pointer (some (Addr.mk r37 0 none))), (5, Value.pointer (some (Addr.mk r38 0 none))), (15, Value.slice l39.a l39.n l39.c),
    (16, Value.int IntKind.i64 n40), (17, Value.int IntKind.i64 n41)]
  L
/-- slots 3, 4, 5, 8 -/
noncomputable def f93_l15 (k : Nat) (j15 : Nat) (r42 : Nat) (r43 : Nat) (r44 : Nat) (r45 : Nat) (r46 : Nat) (L : LHeap) : R :=
  loopAt Proofs.Try.prog Proofs.Ytflhogapjmdkaaa.X.T 93 k [1, 1, 1, 1, 1, 1, 1, 0, 0] [] j15
  [(3, Value.pointer (some (Addr.mk r42 0 none))), (4, Value.pointer (some (Addr.mk r43 0 none))), (5, Value.pointer (some (Addr.mk r44 0 none))),
    (8, Value.func (Fn.func 101) #[] #[Value.pointer (some (Addr.mk r45 0 none)), Value.pointer (some (Addr.mk r46 0 none))])]
  L
theorem f93_eq (k : Nat) (l0 : Sl) (L : LHeap) : Proofs.Ytflhogapjmdkaaa.X.f93 (k + 1) l0 L =
  when (room (↑l0.n : Int) (↑l0.n : Int) Proofs.Try.prog.types[3].bytes)
  (obind
    (stores (L ++ [LBlk.cells (List.flatten (List.replicate (Int.toNat (↑l0.n : Int)) [Value.int IntKind.i64 0])) 3 false 0] ++ [LBlk.cells [Value.slice none 0 0] 49 false 0])
      (Addr.mk (List.length (L ++ [LBlk.cells (List.flatten (List.replicate (Int.toNat (↑l0.n : Int)) [Value.int IntKind.i64 0])) 3 false 0])) 0 none)
      [Value.slice (some (Addr.mk (List.length L) 0 none)) (Int.toNat (↑l0.n : Int)) (Int.toNat (↑l0.n : Int))])
    fun L1 =>
    Proofs.Ytflhogapjmdkaaa.X.f93_l5 k k (List.length (L ++ [LBlk.cells (List.flatten (List.replicate (Int.toNat (↑l0.n : Int)) [Value.int IntKind.i64 0])) 3 false 0])) (List.length L1)
      (List.length (L1 ++ [LBlk.cells [Value.slice none 0 0] 155 false 0])) l0 (↑l0.n : Int) 0
      (L1 ++ [LBlk.cells [Value.slice none 0 0] 155 false 0] ++ [LBlk.cells [Value.slice none 0 0] 49 false 0])) := by kernel_rfl
theorem f93_l5_eq (k : Nat) (j5 : Nat) (r0 : Nat) (r1 : Nat) (r2 : Nat) (l3 : Sl) (n4 : Int) (n5 : Int) (L : LHeap) : Proofs.Ytflhogapjmdkaaa.X.f93_l5 k (j5 + 1) r0 r1 r2 l3 n4 n5 L =
  lif (decide (n5 < n4))
  (obind (idx l3 n5 1) fun a6 =>
    obind (Option.bind (cell L a6) (asI IntKind.i64)) fun n7 =>
      lif (decide (n7 > 0))
        (obind (Option.bind (cell L (Addr.mk r2 0 none)) asSl) fun l8 =>
          obind (Option.bind (cell L (Addr.mk r1 0 none)) asSl) fun l9 =>
            obind (srcOf (L ++ [LBlk.cells [Value.int IntKind.i64 (↑l9.n : Int)] 3 false 0]) Proofs.Try.prog.types[3].size 1 (Value.slice (some (Addr.mk (List.length L) 0 none)) 1 1)) fun x10 =>
              obind (app (L ++ [LBlk.cells [Value.int IntKind.i64 (↑l9.n : Int)] 3 false 0]) 3 Proofs.Try.prog.types[3].size Proofs.Try.prog.types[3].bytes l8 1 x10) fun x11 =>
                obind (stores x11.snd (Addr.mk r2 0 none) [Value.slice x11.fst.a x11.fst.n x11.fst.c]) fun L12 =>
                  obind (Option.bind (cell L12 (Addr.mk r1 0 none)) asSl) fun l13 =>
                    obind
                      (srcOf (L12 ++ [LBlk.cells [Value.int IntKind.i64 n7, Value.int IntKind.i64 (-1), Value.int IntKind.i64 n5] 157 false 0]) Proofs.Try.prog.types[157].size 1
                        (Value.slice (some (Addr.mk (List.length L12) 0 none)) 1 1))
                      fun x14 =>
                      obind
                        (app (L12 ++ [LBlk.cells [Value.int IntKind.i64 n7, Value.int IntKind.i64 (-1), Value.int IntKind.i64 n5] 157 false 0]) 157 Proofs.Try.prog.types[157].size
                          Proofs.Try.prog.types[157].bytes l13 1 x14)
                        fun x15 =>
                        obind (stores x15.snd (Addr.mk r1 0 none) [Value.slice x15.fst.a x15.fst.n x15.fst.c]) fun L16 =>
                          Proofs.Ytflhogapjmdkaaa.X.f93_l5 k j5 r0 r1 r2 l3 n4 (IntKind.wrap IntKind.i64 (n5 + 1)) L16)
        (Proofs.Ytflhogapjmdkaaa.X.f93_l5 k j5 r0 r1 r2 l3 n4 (IntKind.wrap IntKind.i64 (n5 + 1)) L))
  (obind (Option.bind (cell L (Addr.mk r2 0 none)) asSl) fun l17 =>
    lif ((↑l17.n : Int) == 1)
      (obind (Option.bind (cell L (Addr.mk r0 0 none)) asSl) fun l18 =>
        obind (Option.bind (cell L (Addr.mk r1 0 none)) asSl) fun l19 =>
          obind (idx l19 0 3) fun a20 =>
            obind (Option.bind (cell L (Addr.add a20 2)) (asI IntKind.i64)) fun n21 =>
              obind (idx l18 n21 1) fun a22 =>
                obind (stores L a22 [Value.int IntKind.i64 1]) fun L23 => obind (Option.bind (cell L23 (Addr.mk r0 0 none)) asSl) fun l24 => some (LR.ret (Value.slice l24.a l24.n l24.c) L23))
      (Proofs.Ytflhogapjmdkaaa.X.f93_l15 k k r0 r1 r2 r2 r1 L)) := by kernel_rfl
theorem f93_l15_eq (k : Nat) (j15 : Nat) (r0 : Nat) (r1 : Nat) (r2 : Nat) (r3 : Nat) (r4 : Nat) (L : LHeap) : Proofs.Ytflhogapjmdkaaa.X.f93_l15 k (j15 + 1) r0 r1 r2 r3 r4 L =
  obind (Option.bind (cell L (Addr.mk r2 0 none)) asSl) fun l5 =>
  lif (decide ((↑l5.n : Int) > 1))
    (lbind (Proofs.Ytflhogapjmdkaaa.X.f101 k r3 r4 L) fun v6 L7 =>
      obind (asI IntKind.i64 v6) fun n8 =>
        lbind (Proofs.Ytflhogapjmdkaaa.X.f101 k r3 r4 L7) fun v9 L10 =>
          obind (asI IntKind.i64 v9) fun n11 =>
            obind (Option.bind (cell L10 (Addr.mk r2 0 none)) asSl) fun l12 =>
              obind (Option.bind (cell L10 (Addr.mk r1 0 none)) asSl) fun l13 =>
                obind (srcOf (L10 ++ [LBlk.cells [Value.int IntKind.i64 (↑l13.n : Int)] 3 false 0]) Proofs.Try.prog.types[3].size 1 (Value.slice (some (Addr.mk (List.length L10) 0 none)) 1 1))
                  fun x14 =>
                  obind (app (L10 ++ [LBlk.cells [Value.int IntKind.i64 (↑l13.n : Int)] 3 false 0]) 3 Proofs.Try.prog.types[3].size Proofs.Try.prog.types[3].bytes l12 1 x14) fun x15 =>
                    obind (stores x15.snd (Addr.mk r2 0 none) [Value.slice x15.fst.a x15.fst.n x15.fst.c]) fun L16 =>
                      obind (Option.bind (cell L16 (Addr.mk r1 0 none)) asSl) fun l17 =>
                        obind (Option.bind (cell L16 (Addr.mk r1 0 none)) asSl) fun l18 =>
                          obind (idx l18 n8 3) fun a19 =>
                            obind (Option.bind (cell L16 (Addr.add a19 0)) (asI IntKind.i64)) fun n20 =>
                              obind (Option.bind (cell L16 (Addr.mk r1 0 none)) asSl) fun l21 =>
                                obind (idx l21 n11 3) fun a22 =>
                                  obind (Option.bind (cell L16 (Addr.add a22 0)) (asI IntKind.i64)) fun n23 =>
                                    obind
                                      (Option.bind
                                        (cell (L16 ++ [LBlk.cells [Value.int IntKind.i64 (IntKind.wrap IntKind.i64 (n20 + n23)), Value.int IntKind.i64 n8, Value.int IntKind.i64 n11] 157 false 0])
                                          (Addr.mk r1 0 none))
                                        asSl)
                                      fun l24 =>
                                      when (same (Value.slice l17.a l17.n l17.c) (Value.slice l24.a l24.n l24.c))
                                        (obind
                                          (srcOf (L16 ++ [LBlk.cells [Value.int IntKind.i64 (IntKind.wrap IntKind.i64 (n20 + n23)), Value.int IntKind.i64 n8, Value.int IntKind.i64 n11] 157 false 0])
                                            Proofs.Try.prog.types[157].size 1 (Value.slice (some (Addr.mk (List.length L16) 0 none)) 1 1))
                                          fun x25 =>
                                          obind
                                            (app (L16 ++ [LBlk.cells [Value.int IntKind.i64 (IntKind.wrap IntKind.i64 (n20 + n23)), Value.int IntKind.i64 n8, Value.int IntKind.i64 n11] 157 false 0])
                                              157 Proofs.Try.prog.types[157].size Proofs.Try.prog.types[157].bytes l17 1 x25)
                                            fun x26 =>
                                            obind (stores x26.snd (Addr.mk r1 0 none) [Value.slice x26.fst.a x26.fst.n x26.fst.c]) fun L27 =>
                                              Proofs.Ytflhogapjmdkaaa.X.f93_l15 k j15 r0 r1 r2 r3 r4 L27))
    (obind
      (stores (L ++ [LBlk.cells [Value.nilFunc] 159 false 0]) (Addr.mk (List.length L) 0 none)
        [Value.func (Fn.func 103) #[] #[Value.pointer (some (Addr.mk r1 0 none)), Value.pointer (some (Addr.mk r0 0 none)), Value.pointer (some (Addr.mk (List.length L) 0 none))]])
      fun L28 =>
      obind (Option.bind (cell L28 (Addr.mk r1 0 none)) asSl) fun l29 =>
        lif (decide ((↑l29.n : Int) > 0))
          (obind (cell L28 (Addr.mk (List.length L) 0 none)) fun v30 =>
            obind (Option.bind (cell L28 (Addr.mk r1 0 none)) asSl) fun l31 =>
              lbind (lapp (lcall Proofs.Try.prog Proofs.Ytflhogapjmdkaaa.X.T k) v30 [Value.int IntKind.i64 (IntKind.wrap IntKind.i64 ((↑l31.n : Int) - 1)), Value.int IntKind.i64 0] L28) fun v32 L33 =>
                obind (Option.bind (cell L33 (Addr.mk r0 0 none)) asSl) fun l34 => some (LR.ret (Value.slice l34.a l34.n l34.c) L33))
          (obind (Option.bind (cell L28 (Addr.mk r0 0 none)) asSl) fun l35 => some (LR.ret (Value.slice l35.a l35.n l35.c) L28))) := by kernel_rfl
/-- slots 0, 3, 4 -/
noncomputable def f94_l5 (k : Nat) (j5 : Nat) (l5 : Sl) (n6 : Int) (n7 : Int) (L : LHeap) : R :=
  loopAt Proofs.Try.prog Proofs.Ytflhogapjmdkaaa.X.T 94 k [1, 1, 1, 0, 1, 0] [] j5 [(0, Value.slice l5.a l5.n l5.c), (3, Value.int IntKind.i64 n6), (4, Value.int IntKind.i64 n7)] L
theorem f94_eq (k : Nat) (l0 : Sl) (L : LHeap) : Proofs.Ytflhogapjmdkaaa.X.f94 (k + 1) l0 L =
  lif (decide ((↑l0.n : Int) < 1))
  (some (LR.pan (Value.iface 9 (Value.string (ByteArray.mk #[115, 108, 105, 99, 101, 115, 46, 77, 97, 120, 58, 32, 101, 109, 112, 116, 121, 32, 108, 105, 115, 116]))) L))
  (obind (idx l0 0 1) fun a1 => obind (Option.bind (cell L a1) (asI IntKind.i64)) fun n2 => Proofs.Ytflhogapjmdkaaa.X.f94_l5 k k l0 n2 1 L) := by kernel_rfl
theorem f94_l5_eq (k : Nat) (j5 : Nat) (l0 : Sl) (n1 : Int) (n2 : Int) (L : LHeap) : Proofs.Ytflhogapjmdkaaa.X.f94_l5 k (j5 + 1) l0 n1 n2 L =
  lif (decide (n2 < (↑l0.n : Int)))
  (obind (idx l0 n2 1) fun a3 =>
    obind (Option.bind (cell L a3) (asI IntKind.i64)) fun n4 =>
      Proofs.Ytflhogapjmdkaaa.X.f94_l5 k j5 l0 (if true = true then if n4 > n1 then n4 else n1 else if n4 < n1 then n4 else n1) (IntKind.wrap IntKind.i64 (n2 + 1)) L)
  (some (LR.ret (Value.int IntKind.i64 n1) L)) := by kernel_rfl
/-- slots 3, 5, 6, 7 -/
noncomputable def f98_l6 (k : Nat) (j6 : Nat) (r6 : Nat) (n7 : Int) (n8 : Int) (n9 : Int) (L : LHeap) : R :=
  loopAt Proofs.Try.prog Proofs.Ytflhogapjmdkaaa.X.T 98 k [1, 1, 1, 1, 0, 1, 0] [] j6
  [(3, Value.pointer (some (Addr.mk r6 0 none))), (5, Value.int IntKind.i64 n7), (6, Value.int IntKind.i64 n8), (7, Value.int IntKind.i64 n9)] L
theorem f98_eq (k : Nat) (l0 : Sl) (L : LHeap) : Proofs.Ytflhogapjmdkaaa.X.f98 (k + 1) l0 L =
  lbind (Proofs.Ytflhogapjmdkaaa.X.f81 k l0 L) fun v1 L2 =>
  obind (tupL v1) fun x3 =>
    uncons x3 fun v4 vs5 =>
      obind (Rlm.asAgg v4) fun x6 =>
        uncons vs5 fun v7 vs8 =>
          obind (asB v7) fun b9 =>
            nilL vs8
              (when (Nat.beq (List.length x6.toList) 16)
                (obind
                  (stores
                    (L2 ++
                      [LBlk.cells
                          [Value.int IntKind.i64 0, Value.int IntKind.i64 0, Value.int IntKind.i64 0, Value.int IntKind.i64 0, Value.int IntKind.i64 0, Value.int IntKind.i64 0,
                            Value.int IntKind.i64 0, Value.int IntKind.i64 0, Value.int IntKind.i64 0, Value.int IntKind.i64 0, Value.int IntKind.i64 0, Value.int IntKind.i64 0,
                            Value.int IntKind.i64 0, Value.int IntKind.i64 0, Value.int IntKind.i64 0, Value.int IntKind.i64 0]
                          137 false 0])
                    (Addr.mk (List.length L2) 0 none) x6.toList)
                  fun L10 =>
                  lif (!b9) (some (LR.ret (Value.bool false) L10))
                    (lif (decide ((↑l0.n : Int) > 512)) (some (LR.ret (Value.bool false) L10)) (Proofs.Ytflhogapjmdkaaa.X.f98_l6 k k (List.length L2) 0 0 1 L10)))) := by kernel_rfl
theorem f98_l6_eq (k : Nat) (j6 : Nat) (r0 : Nat) (n1 : Int) (n2 : Int) (n3 : Int) (L : LHeap) : Proofs.Ytflhogapjmdkaaa.X.f98_l6 k (j6 + 1) r0 n1 n2 n3 L =
  lif (decide (n3 < 16))
  (when (decide (0 ≤ n3))
    (when (decide (n3 < 16))
      (obind (Option.bind (cell L (Addr.add (Addr.mk r0 0 none) (Int.toNat n3 * 1))) (asI IntKind.i64)) fun n4 =>
        when (!decide (IntKind.wrap IntKind.i64 (15 - n3) < 0))
          (when (decide (0 ≤ n3))
            (when (decide (n3 < 16))
              (obind (Option.bind (cell L (Addr.add (Addr.mk r0 0 none) (Int.toNat n3 * 1))) (asI IntKind.i64)) fun n5 =>
                Proofs.Ytflhogapjmdkaaa.X.f98_l6 k j6 r0 (IntKind.wrap IntKind.i64 (n1 + IntKind.wrap IntKind.i64 (n4 * 2 ^ min (Int.toNat (IntKind.wrap IntKind.i64 (15 - n3))) 64)))
                  (IntKind.wrap IntKind.i64 (n2 + n5)) (IntKind.wrap IntKind.i64 (n3 + 1)) L))))))
  (lif (n1 == 0) (some (LR.ret (Value.bool true) L))
    (lif (n1 == 32768) (some (LR.ret (Value.bool true) L)) (lif (n2 == 1) (some (LR.ret (Value.bool (n1 == 16384)) L)) (some (LR.ret (Value.bool false) L))))) := by kernel_rfl
/-- slots 0, 1, 7, 8 -/
noncomputable def f100_l2 (k : Nat) (j2 : Nat) (l9 : Sl) (v10 : Value) (n11 : Int) (n12 : Int) (L : LHeap) : R :=
  loopAt Proofs.Try.prog Proofs.Ytflhogapjmdkaaa.X.T 100 k [1, 0, 1, 0] [] j2 [(0, Value.slice l9.a l9.n l9.c), (1, v10), (7, Value.int IntKind.i64 n11), (8, Value.int IntKind.i64 n12)] L
theorem f100_eq (k : Nat) (l0 : Sl) (v1 : Value) (L : LHeap) : Proofs.Ytflhogapjmdkaaa.X.f100 (k + 1) l0 v1 L =
  Proofs.Ytflhogapjmdkaaa.X.f100_l2 k k l0 v1 (↑l0.n : Int) 0 L := by kernel_rfl
theorem f100_l2_eq (k : Nat) (j2 : Nat) (l0 : Sl) (v1 : Value) (n2 : Int) (n3 : Int) (L : LHeap) : Proofs.Ytflhogapjmdkaaa.X.f100_l2 k (j2 + 1) l0 v1 n2 n3 L =
  lif (decide (n3 < n2))
  (obind (idx l0 n3 1) fun a4 =>
    obind (Option.bind (cell L a4) (asI IntKind.i64)) fun n5 =>
      lbind (lapp (lcall Proofs.Try.prog Proofs.Ytflhogapjmdkaaa.X.T k) v1 [Value.int IntKind.i64 n5] L) fun v6 L7 =>
        obind (asB v6) fun b8 => lif b8 (some (LR.ret (Value.int IntKind.i64 n3) L7)) (Proofs.Ytflhogapjmdkaaa.X.f100_l2 k j2 l0 v1 n2 (IntKind.wrap IntKind.i64 (n3 + 1)) L7))
  (some (LR.ret (Value.int IntKind.i64 (-1)) L)) := by kernel_rfl
/-- slots 0, 1, 3, 7, 8, 9 -/
noncomputable def f101_l3 (k : Nat) (j3 : Nat) (r25 : Nat) (r26 : Nat) (n27 : Int) (l28 : Sl) (n29 : Int) (n30 : Int) (L : LHeap) : R :=
  loopAt Proofs.Try.prog Proofs.Ytflhogapjmdkaaa.X.T 101 k [1, 1, 0, 1, 0] [] j3
  [(0, Value.pointer (some (Addr.mk r25 0 none))), (1, Value.pointer (some (Addr.mk r26 0 none))), (3, Value.int IntKind.i64 n27), (7, Value.slice l28.a l28.n l28.c), (8, Value.int IntKind.i64 n29),
    (9, Value.int IntKind.i64 n30)]
  L
theorem f101_eq (k : Nat) (r0 : Nat) (r1 : Nat) (L : LHeap) : Proofs.Ytflhogapjmdkaaa.X.f101 (k + 1) r0 r1 L =
  obind (Option.bind (cell L (Addr.mk r0 0 none)) asSl) fun l2 => Proofs.Ytflhogapjmdkaaa.X.f101_l3 k k r0 r1 0 l2 (↑l2.n : Int) 0 L := by kernel_rfl
theorem f101_l3_eq (k : Nat) (j3 : Nat) (r0 : Nat) (r1 : Nat) (n2 : Int) (l3 : Sl) (n4 : Int) (n5 : Int) (L : LHeap) : Proofs.Ytflhogapjmdkaaa.X.f101_l3 k (j3 + 1) r0 r1 n2 l3 n4 n5 L =
  lif (decide (n5 < n4))
  (obind (idx l3 n5 1) fun a6 =>
    obind (Option.bind (cell L a6) (asI IntKind.i64)) fun n7 =>
      obind (Option.bind (cell L (Addr.mk r1 0 none)) asSl) fun l8 =>
        obind (idx l8 n7 3) fun a9 =>
          obind (Option.bind (cell L (Addr.add a9 0)) (asI IntKind.i64)) fun n10 =>
            obind (Option.bind (cell L (Addr.mk r1 0 none)) asSl) fun l11 =>
              obind (Option.bind (cell L (Addr.mk r0 0 none)) asSl) fun l12 =>
                obind (idx l12 n2 1) fun a13 =>
                  obind (Option.bind (cell L a13) (asI IntKind.i64)) fun n14 =>
                    obind (idx l11 n14 3) fun a15 =>
                      obind (Option.bind (cell L (Addr.add a15 0)) (asI IntKind.i64)) fun n16 =>
                        lif (decide (n10 < n16)) (Proofs.Ytflhogapjmdkaaa.X.f101_l3 k j3 r0 r1 n5 l3 n4 (IntKind.wrap IntKind.i64 (n5 + 1)) L)
                          (Proofs.Ytflhogapjmdkaaa.X.f101_l3 k j3 r0 r1 n2 l3 n4 (IntKind.wrap IntKind.i64 (n5 + 1)) L))
  (obind (Option.bind (cell L (Addr.mk r0 0 none)) asSl) fun l17 =>
    obind (idx l17 n2 1) fun a18 =>
      obind (Option.bind (cell L a18) (asI IntKind.i64)) fun n19 =>
        obind (Option.bind (cell L (Addr.mk r0 0 none)) asSl) fun l20 =>
          lbind (Proofs.Ytflhogapjmdkaaa.X.f102 k l20 n2 (IntKind.wrap IntKind.i64 (n2 + 1)) L) fun v21 L22 =>
            obind (asSl v21) fun l23 => obind (stores L22 (Addr.mk r0 0 none) [Value.slice l23.a l23.n l23.c]) fun L24 => some (LR.ret (Value.int IntKind.i64 n19) L24)) := by kernel_rfl
theorem f102_eq (k : Nat) (l0 : Sl) (n1 : Int) (n2 : Int) (L : LHeap) : Proofs.Ytflhogapjmdkaaa.X.f102 (k + 1) l0 n1 n2 L =
  obind (cut L l0 (some n1) (some n2) (some (↑l0.n : Int)) 1) fun l3 =>
  lif (n1 == n2) (some (LR.ret (Value.slice l0.a l0.n l0.c) L))
    (obind (cut L l0 none (some n1) none 1) fun l4 =>
      obind (cut L l0 (some n2) none none 1) fun l5 =>
        obind (srcOf L Proofs.Try.prog.types[3].size l5.n (Value.slice l5.a l5.n l5.c)) fun x6 =>
          obind (app L 3 Proofs.Try.prog.types[3].size Proofs.Try.prog.types[3].bytes l4 l5.n x6) fun x7 =>
            obind (cut x7.snd x7.fst (some (↑x7.fst.n : Int)) (some (↑l0.n : Int)) none 1) fun l8 =>
              obind (lcopy x7.snd l8 l8.n (List.length [Value.int IntKind.i64 0]) (List.flatten (List.replicate l8.n [Value.int IntKind.i64 0]))) fun L9 =>
                some (LR.ret (Value.slice x7.fst.a x7.fst.n x7.fst.c) L9)) := by kernel_rfl
theorem f103_eq (k : Nat) (n0 : Int) (n1 : Int) (r2 : Nat) (r3 : Nat) (r4 : Nat) (L : LHeap) : Proofs.Ytflhogapjmdkaaa.X.f103 (k + 1) n0 n1 r2 r3 r4 L =
  obind (Option.bind (cell L (Addr.mk r2 0 none)) asSl) fun l5 =>
  obind (idx l5 n0 3) fun a6 =>
    obind (Option.bind (cell L (Addr.add a6 1)) (asI IntKind.i64)) fun n7 =>
      lif (decide (n7 < 0))
        (obind (Option.bind (cell L (Addr.mk r3 0 none)) asSl) fun l8 =>
          obind (Option.bind (cell L (Addr.mk r2 0 none)) asSl) fun l9 =>
            obind (idx l9 n0 3) fun a10 =>
              obind (Option.bind (cell L (Addr.add a10 2)) (asI IntKind.i64)) fun n11 =>
                obind (idx l8 n11 1) fun a12 => obind (stores L a12 [Value.int IntKind.i64 n1]) fun L13 => some (LR.ret (Value.tuple #[]) L13))
        (obind (cell L (Addr.mk r4 0 none)) fun v14 =>
          obind (Option.bind (cell L (Addr.mk r2 0 none)) asSl) fun l15 =>
            obind (idx l15 n0 3) fun a16 =>
              obind (Option.bind (cell L (Addr.add a16 1)) (asI IntKind.i64)) fun n17 =>
                lbindR (lapp (lcall Proofs.Try.prog Proofs.Ytflhogapjmdkaaa.X.T k) v14 [Value.int IntKind.i64 n17, Value.int IntKind.i64 (IntKind.wrap IntKind.i64 (n1 + 1))] L) fun v18 L19 =>
                  obind (cell L19 (Addr.mk r4 0 none)) fun v20 =>
                    obind (Option.bind (cell L19 (Addr.mk r2 0 none)) asSl) fun l21 =>
                      obind (idx l21 n0 3) fun a22 =>
                        obind (Option.bind (cell L19 (Addr.add a22 2)) (asI IntKind.i64)) fun n23 =>
                          lbindR (lapp (lcall Proofs.Try.prog Proofs.Ytflhogapjmdkaaa.X.T k) v20 [Value.int IntKind.i64 n23, Value.int IntKind.i64 (IntKind.wrap IntKind.i64 (n1 + 1))] L19)
                            fun v24 L25 => some (LR.ret (Value.tuple #[]) L25)) := by kernel_rfl
end Go.Proofs.Ytflhogapjmdkaaa.X
end

section
set_option maxRecDepth 100000
set_option linter.unusedVariables false
namespace Go.Proofs.Ytflhogapjmdkaaa.X
open Go Go.Rlm
/-- The table of math/bits. -/
def len8tab : ByteArray := ⟨(List.replicate 1 0 ++ List.replicate 1 1 ++ List.replicate 2 2 ++ List.replicate 4 3 ++ List.replicate 8 4 ++ List.replicate 16 5 ++ List.replicate 32 6 ++ List.replicate 64 7 ++ List.replicate 128 8 : List UInt8).toArray⟩
/-- hamper/hamperlaw16.BlockPacks -/
noncomputable def f3 (k : Nat) (l0 : Sl) (L : LHeap) : R :=
  lcall Proofs.Try.prog Proofs.Ytflhogapjmdkaaa.X.T k 3 [Value.slice l0.a l0.n l0.c] L
/-- hamper/hamperlaw16.BlockUnpacks -/
noncomputable def f4 (k : Nat) (s0 : ByteArray) (L : LHeap) : R :=
  lcall Proofs.Try.prog Proofs.Ytflhogapjmdkaaa.X.T k 4 [Value.string s0] L
/-- hamper/block.Pack -/
noncomputable def f14 (k : Nat) (l0 : Sl) (L : LHeap) : R :=
  lcall Proofs.Try.prog Proofs.Ytflhogapjmdkaaa.X.T k 14 [Value.slice l0.a l0.n l0.c] L
/-- hamper/block.Shape -/
noncomputable def f16 (k : Nat) (n0 : Int) (n1 : Int) (n2 : Int) (n3 : Int) (n4 : Int) (L : LHeap) : R :=
  lcall Proofs.Try.prog Proofs.Ytflhogapjmdkaaa.X.T k 16 [Value.agg #[Value.int IntKind.u8 n0, Value.int IntKind.u8 n1, Value.int IntKind.i64 n2, Value.int IntKind.i64 n3, Value.int IntKind.i64 n4]] L
/-- hamper/block.Unpack -/
noncomputable def f19 (k : Nat) (s0 : ByteArray) (L : LHeap) : R :=
  lcall Proofs.Try.prog Proofs.Ytflhogapjmdkaaa.X.T k 19 [Value.string s0] L
/-- hamper/block.caught -/
noncomputable def f25 (k : Nat) (v0 : Value) (L : LHeap) : R :=
  lcall Proofs.Try.prog Proofs.Ytflhogapjmdkaaa.X.T k 25 [v0] L
/-- hamper/block.Pack$1 -/
noncomputable def f26 (k : Nat) (r0 : Nat) (r1 : Nat) (L : LHeap) : R :=
  lcall Proofs.Try.prog Proofs.Ytflhogapjmdkaaa.X.T k 26 [Value.pointer (some (Addr.mk r0 0 none)), Value.pointer (some (Addr.mk r1 0 none))] L
/-- hamper/block.packed -/
noncomputable def f27 (k : Nat) (l0 : Sl) (L : LHeap) : R :=
  lcall Proofs.Try.prog Proofs.Ytflhogapjmdkaaa.X.T k 27 [Value.slice l0.a l0.n l0.c] L
/-- hamper/block.must -/
noncomputable def f46 (k : Nat) (n0 : Int) (L : LHeap) : R :=
  lcall Proofs.Try.prog Proofs.Ytflhogapjmdkaaa.X.T k 46 [Value.int IntKind.i64 n0] L
/-- hamper/block.said -/
noncomputable def f47 (k : Nat) (n0 : Int) (n1 : Int) (n2 : Int) (n3 : Int) (n4 : Int) (v5 : Value) (v6 : Value) (v7 : Value) (L : LHeap) : R :=
  lcall Proofs.Try.prog Proofs.Ytflhogapjmdkaaa.X.T k 47
  [Value.agg #[Value.int IntKind.u8 n0, Value.int IntKind.u8 n1, Value.int IntKind.i64 n2, Value.int IntKind.i64 n3, Value.int IntKind.i64 n4], v5, v6, v7] L
/-- hamper/block.packed$1 -/
noncomputable def f48 (k : Nat) (n0 : Int) (r1 : Nat) (L : LHeap) : R :=
  lcall Proofs.Try.prog Proofs.Ytflhogapjmdkaaa.X.T k 48 [Value.int IntKind.i64 n0, Value.pointer (some (Addr.mk r1 0 none))] L
/-- hamper/block.packed$2 -/
noncomputable def f49 (k : Nat) (n0 : Int) (r1 : Nat) (L : LHeap) : R :=
  lcall Proofs.Try.prog Proofs.Ytflhogapjmdkaaa.X.T k 49 [Value.int IntKind.i64 n0, Value.pointer (some (Addr.mk r1 0 none))] L
/-- hamper/block.packed$3 -/
noncomputable def f50 (k : Nat) (n0 : Int) (L : LHeap) : R :=
  lcall Proofs.Try.prog Proofs.Ytflhogapjmdkaaa.X.T k 50 [Value.int IntKind.i64 n0] L
/-- hamper/block.coder -/
noncomputable def f51 (k : Nat) (l0 : Sl) (L : LHeap) : R :=
  lcall Proofs.Try.prog Proofs.Ytflhogapjmdkaaa.X.T k 51 [Value.slice l0.a l0.n l0.c] L
/-- hamper/block.packed$4 -/
noncomputable def f52 (k : Nat) (p0 : Option Addr) (r1 : Nat) (L : LHeap) : R :=
  lcall Proofs.Try.prog Proofs.Ytflhogapjmdkaaa.X.T k 52 [Value.pointer p0, Value.pointer (some (Addr.mk r1 0 none))] L
/-- hamper/block.packed$4$1 -/
noncomputable def f53 (k : Nat) (n0 : Int) (r1 : Nat) (r2 : Nat) (L : LHeap) : R :=
  lcall Proofs.Try.prog Proofs.Ytflhogapjmdkaaa.X.T k 53 [Value.int IntKind.i64 n0, Value.pointer (some (Addr.mk r1 0 none)), Value.pointer (some (Addr.mk r2 0 none))] L
/-- hamper/block.packed$5 -/
noncomputable def f55 (k : Nat) (n0 : Int) (r1 : Nat) (L : LHeap) : R :=
  lcall Proofs.Try.prog Proofs.Ytflhogapjmdkaaa.X.T k 55 [Value.int IntKind.i64 n0, Value.pointer (some (Addr.mk r1 0 none))] L
/-- math/bits.Len -/
noncomputable def f56 (k : Nat) (n0 : Int) (L : LHeap) : R :=
  lcall Proofs.Try.prog Proofs.Ytflhogapjmdkaaa.X.T k 56 [Value.int IntKind.u64 n0] L
/-- hamper/table.Make -/
noncomputable def f76 (k : Nat) (l0 : Sl) (L : LHeap) : R :=
  lcall Proofs.Try.prog Proofs.Ytflhogapjmdkaaa.X.T k 76 [Value.slice l0.a l0.n l0.c] L
/-- math/bits.Len64 -/
noncomputable def f78 (k : Nat) (n0 : Int) (L : LHeap) : R :=
  lcall Proofs.Try.prog Proofs.Ytflhogapjmdkaaa.X.T k 78 [Value.int IntKind.u64 n0] L
/-- hamper/table.Make$1 -/
noncomputable def f95 (k : Nat) (n0 : Int) (L : LHeap) : R :=
  lcall Proofs.Try.prog Proofs.Ytflhogapjmdkaaa.X.T k 95 [Value.int IntKind.i64 n0] L
/-- hamper/table.runs -/
noncomputable def f96 (k : Nat) (l0 : Sl) (L : LHeap) : R :=
  lcall Proofs.Try.prog Proofs.Ytflhogapjmdkaaa.X.T k 96 [Value.slice l0.a l0.n l0.c] L
/-- hamper/table.runs$1 -/
noncomputable def f104 (k : Nat) (y0 : Nat) (r1 : Nat) (L : LHeap) : R :=
  lcall Proofs.Try.prog Proofs.Ytflhogapjmdkaaa.X.T k 104 [Value.func (Fn.yield y0) #[] #[], Value.pointer (some (Addr.mk r1 0 none))] L
theorem f14_eq (k : Nat) (l0 : Sl) (L : LHeap) : Proofs.Ytflhogapjmdkaaa.X.f14 (k + 1) l0 L =
  lbind
  (Proofs.Ytflhogapjmdkaaa.X.f25 k
    (Value.func (Fn.func 26) #[]
      #[Value.pointer (some (Addr.mk (List.length L) 0 none)), Value.pointer (some (Addr.mk (List.length (L ++ [LBlk.cells [Value.slice l0.a l0.n l0.c] 22 false 0])) 0 none))])
    (L ++ [LBlk.cells [Value.slice l0.a l0.n l0.c] 22 false 0] ++ [LBlk.cells [Value.string (ByteArray.mk #[])] 9 false 0]))
  fun v1 L2 =>
  obind (asI IntKind.i64 v1) fun n3 =>
    obind (Option.bind (cell L2 (Addr.mk (List.length (L ++ [LBlk.cells [Value.slice l0.a l0.n l0.c] 22 false 0])) 0 none)) asS) fun s4 =>
      obind (stores L2 (Addr.mk (List.length (L ++ [LBlk.cells [Value.slice l0.a l0.n l0.c] 22 false 0])) 0 none) [Value.string s4]) fun L5 =>
        obind (Option.bind (cell L5 (Addr.mk (List.length (L ++ [LBlk.cells [Value.slice l0.a l0.n l0.c] 22 false 0])) 0 none)) asS) fun s6 =>
          some (LR.ret (Value.tuple #[Value.string s6, Value.int IntKind.i64 n3]) L5) := by kernel_rfl
theorem f16_eq (k : Nat) (n0 : Int) (n1 : Int) (n2 : Int) (n3 : Int) (n4 : Int) (L : LHeap) : Proofs.Ytflhogapjmdkaaa.X.f16 (k + 1) n0 n1 n2 n3 n4 L =
  obind
  (Option.bind
    (cell (L ++ [LBlk.cells [Value.int IntKind.u8 n0, Value.int IntKind.u8 n1, Value.int IntKind.i64 n2, Value.int IntKind.i64 n3, Value.int IntKind.i64 n4] 29 false 0])
      (Addr.add (Addr.mk (List.length L) 0 none) 2))
    (asI IntKind.i64))
  fun n5 =>
  lif (decide (n5 ≥ 3))
    (obind
      (Option.bind
        (cell (L ++ [LBlk.cells [Value.int IntKind.u8 n0, Value.int IntKind.u8 n1, Value.int IntKind.i64 n2, Value.int IntKind.i64 n3, Value.int IntKind.i64 n4] 29 false 0])
          (Addr.add (Addr.mk (List.length L) 0 none) 2))
        (asI IntKind.i64))
      fun n6 =>
      obind
        (Option.bind
          (cell (L ++ [LBlk.cells [Value.int IntKind.u8 n0, Value.int IntKind.u8 n1, Value.int IntKind.i64 n2, Value.int IntKind.i64 n3, Value.int IntKind.i64 n4] 29 false 0])
            (Addr.add (Addr.mk (List.length L) 0 none) 0))
          (asI IntKind.u8))
        fun n7 =>
        obind
          (Option.bind
            (cell (L ++ [LBlk.cells [Value.int IntKind.u8 n0, Value.int IntKind.u8 n1, Value.int IntKind.i64 n2, Value.int IntKind.i64 n3, Value.int IntKind.i64 n4] 29 false 0])
              (Addr.add (Addr.mk (List.length L) 0 none) 1))
            (asI IntKind.u8))
          fun n8 =>
          obind
            (Option.bind
              (cell (L ++ [LBlk.cells [Value.int IntKind.u8 n0, Value.int IntKind.u8 n1, Value.int IntKind.i64 n2, Value.int IntKind.i64 n3, Value.int IntKind.i64 n4] 29 false 0])
                (Addr.add (Addr.mk (List.length L) 0 none) 2))
              (asI IntKind.i64))
            fun n9 =>
            obind
              (Option.bind
                (cell (L ++ [LBlk.cells [Value.int IntKind.u8 n0, Value.int IntKind.u8 n1, Value.int IntKind.i64 n2, Value.int IntKind.i64 n3, Value.int IntKind.i64 n4] 29 false 0])
                  (Addr.add (Addr.mk (List.length L) 0 none) 3))
                (asI IntKind.i64))
              fun n10 =>
              obind
                (Option.bind
                  (cell (L ++ [LBlk.cells [Value.int IntKind.u8 n0, Value.int IntKind.u8 n1, Value.int IntKind.i64 n2, Value.int IntKind.i64 n3, Value.int IntKind.i64 n4] 29 false 0])
                    (Addr.add (Addr.mk (List.length L) 0 none) 4))
                  (asI IntKind.i64))
                fun n11 =>
                obind
                  (Option.bind
                    (cell (L ++ [LBlk.cells [Value.int IntKind.u8 n0, Value.int IntKind.u8 n1, Value.int IntKind.i64 n2, Value.int IntKind.i64 n3, Value.int IntKind.i64 n4] 29 false 0])
                      (Addr.add (Addr.mk (List.length L) 0 none) 1))
                    (asI IntKind.u8))
                  fun n12 =>
                  lif (n7 == 1 && (n8 == n12 && (n9 == 0 && (n10 == 0 && (n11 == 0 && true)))))
                    (some
                      (LR.ret (Value.bool true)
                        (L ++ [LBlk.cells [Value.int IntKind.u8 n0, Value.int IntKind.u8 n1, Value.int IntKind.i64 n2, Value.int IntKind.i64 n3, Value.int IntKind.i64 n4] 29 false 0])))
                    (obind
                      (Option.bind
                        (cell (L ++ [LBlk.cells [Value.int IntKind.u8 n0, Value.int IntKind.u8 n1, Value.int IntKind.i64 n2, Value.int IntKind.i64 n3, Value.int IntKind.i64 n4] 29 false 0])
                          (Addr.add (Addr.mk (List.length L) 0 none) 2))
                        (asI IntKind.i64))
                      fun n13 =>
                      obind
                        (Option.bind
                          (cell (L ++ [LBlk.cells [Value.int IntKind.u8 n0, Value.int IntKind.u8 n1, Value.int IntKind.i64 n2, Value.int IntKind.i64 n3, Value.int IntKind.i64 n4] 29 false 0])
                            (Addr.add (Addr.mk (List.length L) 0 none) 3))
                          (asI IntKind.i64))
                        fun n14 =>
                        lif (n7 == 2 && (n8 == 0 && (n9 == n13 && (n10 == n14 && (n11 == 0 && true)))))
                          (lif (decide (n6 ≤ 258))
                            (obind
                              (Option.bind
                                (cell (L ++ [LBlk.cells [Value.int IntKind.u8 n0, Value.int IntKind.u8 n1, Value.int IntKind.i64 n2, Value.int IntKind.i64 n3, Value.int IntKind.i64 n4] 29 false 0])
                                  (Addr.add (Addr.mk (List.length L) 0 none) 3))
                                (asI IntKind.i64))
                              fun n15 =>
                              lif (decide (n15 ≥ 1))
                                (obind
                                  (Option.bind
                                    (cell
                                      (L ++ [LBlk.cells [Value.int IntKind.u8 n0, Value.int IntKind.u8 n1, Value.int IntKind.i64 n2, Value.int IntKind.i64 n3, Value.int IntKind.i64 n4] 29 false 0])
                                      (Addr.add (Addr.mk (List.length L) 0 none) 3))
                                    (asI IntKind.i64))
                                  fun n16 =>
                                  some
                                    (LR.ret (Value.bool (decide (n16 ≤ 32768)))
                                      (L ++ [LBlk.cells [Value.int IntKind.u8 n0, Value.int IntKind.u8 n1, Value.int IntKind.i64 n2, Value.int IntKind.i64 n3, Value.int IntKind.i64 n4] 29 false 0])))
                                (some
                                  (LR.ret (Value.bool false)
                                    (L ++ [LBlk.cells [Value.int IntKind.u8 n0, Value.int IntKind.u8 n1, Value.int IntKind.i64 n2, Value.int IntKind.i64 n3, Value.int IntKind.i64 n4] 29 false 0]))))
                            (some
                              (LR.ret (Value.bool false)
                                (L ++ [LBlk.cells [Value.int IntKind.u8 n0, Value.int IntKind.u8 n1, Value.int IntKind.i64 n2, Value.int IntKind.i64 n3, Value.int IntKind.i64 n4] 29 false 0]))))
                          (obind
                            (Option.bind
                              (cell (L ++ [LBlk.cells [Value.int IntKind.u8 n0, Value.int IntKind.u8 n1, Value.int IntKind.i64 n2, Value.int IntKind.i64 n3, Value.int IntKind.i64 n4] 29 false 0])
                                (Addr.add (Addr.mk (List.length L) 0 none) 2))
                              (asI IntKind.i64))
                            fun n17 =>
                            obind
                              (Option.bind
                                (cell (L ++ [LBlk.cells [Value.int IntKind.u8 n0, Value.int IntKind.u8 n1, Value.int IntKind.i64 n2, Value.int IntKind.i64 n3, Value.int IntKind.i64 n4] 29 false 0])
                                  (Addr.add (Addr.mk (List.length L) 0 none) 4))
                                (asI IntKind.i64))
                              fun n18 =>
                              lif (n7 == 3 && (n8 == 0 && (n9 == n17 && (n10 == 0 && (n11 == n18 && true)))))
                                (lif (decide (n6 ≤ 258))
                                  (obind
                                    (Option.bind
                                      (cell
                                        (L ++ [LBlk.cells [Value.int IntKind.u8 n0, Value.int IntKind.u8 n1, Value.int IntKind.i64 n2, Value.int IntKind.i64 n3, Value.int IntKind.i64 n4] 29 false 0])
                                        (Addr.add (Addr.mk (List.length L) 0 none) 4))
                                      (asI IntKind.i64))
                                    fun n19 =>
                                    lif (decide (n19 ≥ 0))
                                      (obind
                                        (Option.bind
                                          (cell
                                            (L ++
                                              [LBlk.cells [Value.int IntKind.u8 n0, Value.int IntKind.u8 n1, Value.int IntKind.i64 n2, Value.int IntKind.i64 n3, Value.int IntKind.i64 n4] 29 false 0])
                                            (Addr.add (Addr.mk (List.length L) 0 none) 4))
                                          (asI IntKind.i64))
                                        fun n20 =>
                                        some
                                          (LR.ret (Value.bool (decide (n20 < 4)))
                                            (L ++
                                              [LBlk.cells [Value.int IntKind.u8 n0, Value.int IntKind.u8 n1, Value.int IntKind.i64 n2, Value.int IntKind.i64 n3, Value.int IntKind.i64 n4] 29 false
                                                  0])))
                                      (some
                                        (LR.ret (Value.bool false)
                                          (L ++
                                            [LBlk.cells [Value.int IntKind.u8 n0, Value.int IntKind.u8 n1, Value.int IntKind.i64 n2, Value.int IntKind.i64 n3, Value.int IntKind.i64 n4] 29 false 0]))))
                                  (some
                                    (LR.ret (Value.bool false)
                                      (L ++ [LBlk.cells [Value.int IntKind.u8 n0, Value.int IntKind.u8 n1, Value.int IntKind.i64 n2, Value.int IntKind.i64 n3, Value.int IntKind.i64 n4] 29 false 0]))))
                                (some
                                  (LR.ret (Value.bool false)
                                    (L ++ [LBlk.cells [Value.int IntKind.u8 n0, Value.int IntKind.u8 n1, Value.int IntKind.i64 n2, Value.int IntKind.i64 n3, Value.int IntKind.i64 n4] 29 false 0]))))))
    (obind
      (Option.bind
        (cell (L ++ [LBlk.cells [Value.int IntKind.u8 n0, Value.int IntKind.u8 n1, Value.int IntKind.i64 n2, Value.int IntKind.i64 n3, Value.int IntKind.i64 n4] 29 false 0])
          (Addr.add (Addr.mk (List.length L) 0 none) 0))
        (asI IntKind.u8))
      fun n21 =>
      obind
        (Option.bind
          (cell (L ++ [LBlk.cells [Value.int IntKind.u8 n0, Value.int IntKind.u8 n1, Value.int IntKind.i64 n2, Value.int IntKind.i64 n3, Value.int IntKind.i64 n4] 29 false 0])
            (Addr.add (Addr.mk (List.length L) 0 none) 1))
          (asI IntKind.u8))
        fun n22 =>
        obind
          (Option.bind
            (cell (L ++ [LBlk.cells [Value.int IntKind.u8 n0, Value.int IntKind.u8 n1, Value.int IntKind.i64 n2, Value.int IntKind.i64 n3, Value.int IntKind.i64 n4] 29 false 0])
              (Addr.add (Addr.mk (List.length L) 0 none) 2))
            (asI IntKind.i64))
          fun n23 =>
          obind
            (Option.bind
              (cell (L ++ [LBlk.cells [Value.int IntKind.u8 n0, Value.int IntKind.u8 n1, Value.int IntKind.i64 n2, Value.int IntKind.i64 n3, Value.int IntKind.i64 n4] 29 false 0])
                (Addr.add (Addr.mk (List.length L) 0 none) 3))
              (asI IntKind.i64))
            fun n24 =>
            obind
              (Option.bind
                (cell (L ++ [LBlk.cells [Value.int IntKind.u8 n0, Value.int IntKind.u8 n1, Value.int IntKind.i64 n2, Value.int IntKind.i64 n3, Value.int IntKind.i64 n4] 29 false 0])
                  (Addr.add (Addr.mk (List.length L) 0 none) 4))
                (asI IntKind.i64))
              fun n25 =>
              obind
                (Option.bind
                  (cell (L ++ [LBlk.cells [Value.int IntKind.u8 n0, Value.int IntKind.u8 n1, Value.int IntKind.i64 n2, Value.int IntKind.i64 n3, Value.int IntKind.i64 n4] 29 false 0])
                    (Addr.add (Addr.mk (List.length L) 0 none) 1))
                  (asI IntKind.u8))
                fun n26 =>
                lif (n21 == 1 && (n22 == n26 && (n23 == 0 && (n24 == 0 && (n25 == 0 && true)))))
                  (some
                    (LR.ret (Value.bool true)
                      (L ++ [LBlk.cells [Value.int IntKind.u8 n0, Value.int IntKind.u8 n1, Value.int IntKind.i64 n2, Value.int IntKind.i64 n3, Value.int IntKind.i64 n4] 29 false 0])))
                  (obind
                    (Option.bind
                      (cell (L ++ [LBlk.cells [Value.int IntKind.u8 n0, Value.int IntKind.u8 n1, Value.int IntKind.i64 n2, Value.int IntKind.i64 n3, Value.int IntKind.i64 n4] 29 false 0])
                        (Addr.add (Addr.mk (List.length L) 0 none) 2))
                      (asI IntKind.i64))
                    fun n27 =>
                    obind
                      (Option.bind
                        (cell (L ++ [LBlk.cells [Value.int IntKind.u8 n0, Value.int IntKind.u8 n1, Value.int IntKind.i64 n2, Value.int IntKind.i64 n3, Value.int IntKind.i64 n4] 29 false 0])
                          (Addr.add (Addr.mk (List.length L) 0 none) 3))
                        (asI IntKind.i64))
                      fun n28 =>
                      lif (n21 == 2 && (n22 == 0 && (n23 == n27 && (n24 == n28 && (n25 == 0 && true)))))
                        (some
                          (LR.ret (Value.bool false)
                            (L ++ [LBlk.cells [Value.int IntKind.u8 n0, Value.int IntKind.u8 n1, Value.int IntKind.i64 n2, Value.int IntKind.i64 n3, Value.int IntKind.i64 n4] 29 false 0])))
                        (obind
                          (Option.bind
                            (cell (L ++ [LBlk.cells [Value.int IntKind.u8 n0, Value.int IntKind.u8 n1, Value.int IntKind.i64 n2, Value.int IntKind.i64 n3, Value.int IntKind.i64 n4] 29 false 0])
                              (Addr.add (Addr.mk (List.length L) 0 none) 2))
                            (asI IntKind.i64))
                          fun n29 =>
                          obind
                            (Option.bind
                              (cell (L ++ [LBlk.cells [Value.int IntKind.u8 n0, Value.int IntKind.u8 n1, Value.int IntKind.i64 n2, Value.int IntKind.i64 n3, Value.int IntKind.i64 n4] 29 false 0])
                                (Addr.add (Addr.mk (List.length L) 0 none) 4))
                              (asI IntKind.i64))
                            fun n30 =>
                            lif (n21 == 3 && (n22 == 0 && (n23 == n29 && (n24 == 0 && (n25 == n30 && true)))))
                              (some
                                (LR.ret (Value.bool false)
                                  (L ++ [LBlk.cells [Value.int IntKind.u8 n0, Value.int IntKind.u8 n1, Value.int IntKind.i64 n2, Value.int IntKind.i64 n3, Value.int IntKind.i64 n4] 29 false 0])))
                              (some
                                (LR.ret (Value.bool false)
                                  (L ++ [LBlk.cells [Value.int IntKind.u8 n0, Value.int IntKind.u8 n1, Value.int IntKind.i64 n2, Value.int IntKind.i64 n3, Value.int IntKind.i64 n4] 29 false 0])))))) := by kernel_rfl
theorem f26_eq (k : Nat) (r0 : Nat) (r1 : Nat) (L : LHeap) : Proofs.Ytflhogapjmdkaaa.X.f26 (k + 1) r0 r1 L =
  obind (Option.bind (cell L (Addr.mk r0 0 none)) asSl) fun l2 =>
  lbind (Proofs.Ytflhogapjmdkaaa.X.f27 k l2 L) fun v3 L4 => obind (asS v3) fun s5 => obind (stores L4 (Addr.mk r1 0 none) [Value.string s5]) fun L6 => some (LR.ret (Value.tuple #[]) L6) := by kernel_rfl
/-- slots 0, 3, 4, 17, 18, 19 -/
noncomputable def f27_l4 (k : Nat) (j4 : Nat) (l46 : Sl) (r47 : Nat) (r48 : Nat) (l49 : Sl) (n50 : Int) (n51 : Int) (L : LHeap) : R :=
  loopAt Proofs.Try.prog Proofs.Ytflhogapjmdkaaa.X.T 27 k [1, 1, 1, 0, 1, 0] [] j4
  [(0, Value.slice l46.a l46.n l46.c), (3, Value.pointer (some (Addr.mk r47 0 none))), (4, Value.pointer (some (Addr.mk r48 0 none))), (17, Value.slice l49.a l49.n l49.c),
    (18, Value.int IntKind.i64 n50), (19, Value.int IntKind.i64 n51)]
  L
/-- slots 7, 8, 9, 10, 11, 12, 13, 46, 47, 48 -/
noncomputable def f27_l16 (k : Nat) (j16 : Nat) (p52 : Option Addr) (s53 : ByteArray) (p54 : Option Addr) (s55 : ByteArray) (r56 : Nat) (r57 : Nat) (r58 : Nat) (l59 : Sl) (n60 : Int) (n61 : Int) (L : LHeap) : R :=
  loopAt Proofs.Try.prog Proofs.Ytflhogapjmdkaaa.X.T 27 k [1, 1, 1, 1, 1, 1, 1, 1, 1, 0, 1, 0] [] j16
  [(7, Value.pointer p52), (8, Value.string s53), (9, Value.pointer p54), (10, Value.string s55), (11, Value.pointer (some (Addr.mk r56 0 none))),
    (12, Value.func (Fn.func 52) #[] #[Value.pointer (some (Addr.mk r57 0 none))]), (13, Value.func (Fn.func 55) #[] #[Value.pointer (some (Addr.mk r58 0 none))]), (46, Value.slice l59.a l59.n l59.c),
    (47, Value.int IntKind.i64 n60), (48, Value.int IntKind.i64 n61)]
  L
theorem f27_eq (k : Nat) (l0 : Sl) (L : LHeap) : Proofs.Ytflhogapjmdkaaa.X.f27 (k + 1) l0 L =
  obind
  (stores
    (L ++
        [LBlk.cells
            (List.replicate 277 (Value.int IntKind.i64 0))
            80 false 0] ++
      [LBlk.cells
          (List.replicate 277 (Value.int IntKind.i64 0))
          80 false 0])
    (Addr.add (Addr.mk (List.length L) 0 none) 256) [Value.int IntKind.i64 1])
  fun L1 =>
  Proofs.Ytflhogapjmdkaaa.X.f27_l4 k k l0 (List.length L)
    (List.length
      (L ++
        [LBlk.cells
            (List.replicate 277 (Value.int IntKind.i64 0))
            80 false 0]))
    l0 (↑l0.n : Int) 0 L1 := by kernel_rfl
theorem f27_l4_eq (k : Nat) (j4 : Nat) (l0 : Sl) (r1 : Nat) (r2 : Nat) (l3 : Sl) (n4 : Int) (n5 : Int) (L : LHeap) : Proofs.Ytflhogapjmdkaaa.X.f27_l4 k (j4 + 1) l0 r1 r2 l3 n4 n5 L =
  lif (decide (n5 < n4))
  (obind (idx l3 n5 5) fun a6 =>
    obind (Option.bind (cell L (Addr.add a6 0)) (asI IntKind.u8)) fun n7 =>
      obind (Option.bind (cell L (Addr.add a6 1)) (asI IntKind.u8)) fun n8 =>
        obind (Option.bind (cell L (Addr.add a6 2)) (asI IntKind.i64)) fun n9 =>
          obind (Option.bind (cell L (Addr.add a6 3)) (asI IntKind.i64)) fun n10 =>
            obind (Option.bind (cell L (Addr.add a6 4)) (asI IntKind.i64)) fun n11 =>
              obind
                (stores (L ++ [LBlk.cells [Value.int IntKind.u8 0, Value.int IntKind.u8 0, Value.int IntKind.i64 0, Value.int IntKind.i64 0, Value.int IntKind.i64 0] 29 false 0])
                  (Addr.mk (List.length L) 0 none) [Value.int IntKind.u8 n7, Value.int IntKind.u8 n8, Value.int IntKind.i64 n9, Value.int IntKind.i64 n10, Value.int IntKind.i64 n11])
                fun L12 =>
                obind (Option.bind (cell L12 (Addr.add (Addr.mk (List.length L) 0 none) 0)) (asI IntKind.u8)) fun n13 =>
                  obind (Option.bind (cell L12 (Addr.add (Addr.mk (List.length L) 0 none) 1)) (asI IntKind.u8)) fun n14 =>
                    obind (Option.bind (cell L12 (Addr.add (Addr.mk (List.length L) 0 none) 2)) (asI IntKind.i64)) fun n15 =>
                      obind (Option.bind (cell L12 (Addr.add (Addr.mk (List.length L) 0 none) 3)) (asI IntKind.i64)) fun n16 =>
                        obind (Option.bind (cell L12 (Addr.add (Addr.mk (List.length L) 0 none) 4)) (asI IntKind.i64)) fun n17 =>
                          lbind (Proofs.Ytflhogapjmdkaaa.X.f16 k n13 n14 n15 n16 n17 L12) fun v18 L19 =>
                            obind (asB v18) fun b20 =>
                              lif (!b20)
                                (lbind (Proofs.Ytflhogapjmdkaaa.X.f46 k 4 L19) fun v21 L22 =>
                                  obind (Option.bind (cell L22 (Addr.add (Addr.mk (List.length L) 0 none) 0)) (asI IntKind.u8)) fun n23 =>
                                    obind (Option.bind (cell L22 (Addr.add (Addr.mk (List.length L) 0 none) 1)) (asI IntKind.u8)) fun n24 =>
                                      obind (Option.bind (cell L22 (Addr.add (Addr.mk (List.length L) 0 none) 2)) (asI IntKind.i64)) fun n25 =>
                                        obind (Option.bind (cell L22 (Addr.add (Addr.mk (List.length L) 0 none) 3)) (asI IntKind.i64)) fun n26 =>
                                          obind (Option.bind (cell L22 (Addr.add (Addr.mk (List.length L) 0 none) 4)) (asI IntKind.i64)) fun n27 =>
                                            lbind
                                              (Proofs.Ytflhogapjmdkaaa.X.f47 k n23 n24 n25 n26 n27 (Value.func (Fn.func 48) #[] #[Value.pointer (some (Addr.mk r1 0 none))])
                                                (Value.func (Fn.func 49) #[] #[Value.pointer (some (Addr.mk r2 0 none))]) (Value.func (Fn.func 50) #[] #[]) L22)
                                              fun v28 L29 => Proofs.Ytflhogapjmdkaaa.X.f27_l4 k j4 l0 r1 r2 l3 n4 (IntKind.wrap IntKind.i64 (n5 + 1)) L29)
                                (obind (Option.bind (cell L19 (Addr.add (Addr.mk (List.length L) 0 none) 0)) (asI IntKind.u8)) fun n30 =>
                                  obind (Option.bind (cell L19 (Addr.add (Addr.mk (List.length L) 0 none) 1)) (asI IntKind.u8)) fun n31 =>
                                    obind (Option.bind (cell L19 (Addr.add (Addr.mk (List.length L) 0 none) 2)) (asI IntKind.i64)) fun n32 =>
                                      obind (Option.bind (cell L19 (Addr.add (Addr.mk (List.length L) 0 none) 3)) (asI IntKind.i64)) fun n33 =>
                                        obind (Option.bind (cell L19 (Addr.add (Addr.mk (List.length L) 0 none) 4)) (asI IntKind.i64)) fun n34 =>
                                          lbind
                                            (Proofs.Ytflhogapjmdkaaa.X.f47 k n30 n31 n32 n33 n34 (Value.func (Fn.func 48) #[] #[Value.pointer (some (Addr.mk r1 0 none))])
                                              (Value.func (Fn.func 49) #[] #[Value.pointer (some (Addr.mk r2 0 none))]) (Value.func (Fn.func 50) #[] #[]) L19)
                                            fun v35 L36 => Proofs.Ytflhogapjmdkaaa.X.f27_l4 k j4 l0 r1 r2 l3 n4 (IntKind.wrap IntKind.i64 (n5 + 1)) L36))
  (obind (cut L (Sl.mk (some (Addr.mk r1 0 none)) 277 277) none none none 1) fun l37 =>
    lbind (Proofs.Ytflhogapjmdkaaa.X.f51 k l37 L) fun v38 L39 =>
      obind (tupL v38) fun x40 =>
        uncons x40 fun v41 vs42 =>
          obind (asP v41) fun x43 =>
            uncons vs42 fun v44 vs45 =>
              obind (asS v44) fun s46 =>
                nilL vs45
                  (obind (cut L39 (Sl.mk (some (Addr.mk r2 0 none)) 277 277) none (some 9) none 1) fun l47 =>
                    lbind (Proofs.Ytflhogapjmdkaaa.X.f51 k l47 L39) fun v48 L49 =>
                      obind (tupL v48) fun x50 =>
                        uncons x50 fun v51 vs52 =>
                          obind (asP v51) fun x53 =>
                            uncons vs52 fun v54 vs55 =>
                              obind (asS v54) fun s56 =>
                                nilL vs55
                                  (obind
                                    (stores (L49 ++ [LBlk.cells [Value.slice none 0 0, Value.int IntKind.i64 0] 88 false 0] ++ [LBlk.cells [Value.pointer none] 86 false 0])
                                      (Addr.mk (List.length (L49 ++ [LBlk.cells [Value.slice none 0 0, Value.int IntKind.i64 0] 88 false 0])) 0 none)
                                      [Value.pointer (some (Addr.mk (List.length L49) 0 none))])
                                    fun L57 =>
                                    Proofs.Ytflhogapjmdkaaa.X.f27_l16 k k x43 s46 x53 s56 (List.length (L49 ++ [LBlk.cells [Value.slice none 0 0, Value.int IntKind.i64 0] 88 false 0]))
                                      (List.length (L49 ++ [LBlk.cells [Value.slice none 0 0, Value.int IntKind.i64 0] 88 false 0]))
                                      (List.length (L49 ++ [LBlk.cells [Value.slice none 0 0, Value.int IntKind.i64 0] 88 false 0])) l0 (↑l0.n : Int) 0 L57))) := by kernel_rfl
theorem f27_l16_eq (k : Nat) (j16 : Nat) (p0 : Option Addr) (s1 : ByteArray) (p2 : Option Addr) (s3 : ByteArray) (r4 : Nat) (r5 : Nat) (r6 : Nat) (l7 : Sl) (n8 : Int) (n9 : Int) (L : LHeap) : Proofs.Ytflhogapjmdkaaa.X.f27_l16 k (j16 + 1) p0 s1 p2 s3 r4 r5 r6 l7 n8 n9 L =
  lif (decide (n9 < n8))
  (obind (idx l7 n9 5) fun a10 =>
    obind (Option.bind (cell L (Addr.add a10 0)) (asI IntKind.u8)) fun n11 =>
      obind (Option.bind (cell L (Addr.add a10 1)) (asI IntKind.u8)) fun n12 =>
        obind (Option.bind (cell L (Addr.add a10 2)) (asI IntKind.i64)) fun n13 =>
          obind (Option.bind (cell L (Addr.add a10 3)) (asI IntKind.i64)) fun n14 =>
            obind (Option.bind (cell L (Addr.add a10 4)) (asI IntKind.i64)) fun n15 =>
              obind
                (stores (L ++ [LBlk.cells [Value.int IntKind.u8 0, Value.int IntKind.u8 0, Value.int IntKind.i64 0, Value.int IntKind.i64 0, Value.int IntKind.i64 0] 29 false 0])
                  (Addr.mk (List.length L) 0 none) [Value.int IntKind.u8 n11, Value.int IntKind.u8 n12, Value.int IntKind.i64 n13, Value.int IntKind.i64 n14, Value.int IntKind.i64 n15])
                fun L16 =>
                obind (Option.bind (cell L16 (Addr.add (Addr.mk (List.length L) 0 none) 0)) (asI IntKind.u8)) fun n17 =>
                  obind (Option.bind (cell L16 (Addr.add (Addr.mk (List.length L) 0 none) 1)) (asI IntKind.u8)) fun n18 =>
                    obind (Option.bind (cell L16 (Addr.add (Addr.mk (List.length L) 0 none) 2)) (asI IntKind.i64)) fun n19 =>
                      obind (Option.bind (cell L16 (Addr.add (Addr.mk (List.length L) 0 none) 3)) (asI IntKind.i64)) fun n20 =>
                        obind (Option.bind (cell L16 (Addr.add (Addr.mk (List.length L) 0 none) 4)) (asI IntKind.i64)) fun n21 =>
                          lbindR (Proofs.Ytflhogapjmdkaaa.X.f52 k p0 r5 L16) fun v22 L23 =>
                            obind (Option.bind (cell L23 (Addr.add (Addr.mk (List.length L) 0 none) 0)) (asI IntKind.u8)) fun n24 =>
                              obind (Option.bind (cell L23 (Addr.add (Addr.mk (List.length L) 0 none) 1)) (asI IntKind.u8)) fun n25 =>
                                obind (Option.bind (cell L23 (Addr.add (Addr.mk (List.length L) 0 none) 2)) (asI IntKind.i64)) fun n26 =>
                                  obind (Option.bind (cell L23 (Addr.add (Addr.mk (List.length L) 0 none) 3)) (asI IntKind.i64)) fun n27 =>
                                    obind (Option.bind (cell L23 (Addr.add (Addr.mk (List.length L) 0 none) 4)) (asI IntKind.i64)) fun n28 =>
                                      when
                                        (same (Value.agg #[Value.int IntKind.u8 n17, Value.int IntKind.u8 n18, Value.int IntKind.i64 n19, Value.int IntKind.i64 n20, Value.int IntKind.i64 n21])
                                          (Value.agg #[Value.int IntKind.u8 n24, Value.int IntKind.u8 n25, Value.int IntKind.i64 n26, Value.int IntKind.i64 n27, Value.int IntKind.i64 n28]))
                                        (lbindR (Proofs.Ytflhogapjmdkaaa.X.f52 k p2 r5 L23) fun v29 L30 =>
                                          obind (Option.bind (cell L30 (Addr.add (Addr.mk (List.length L) 0 none) 0)) (asI IntKind.u8)) fun n31 =>
                                            obind (Option.bind (cell L30 (Addr.add (Addr.mk (List.length L) 0 none) 1)) (asI IntKind.u8)) fun n32 =>
                                              obind (Option.bind (cell L30 (Addr.add (Addr.mk (List.length L) 0 none) 2)) (asI IntKind.i64)) fun n33 =>
                                                obind (Option.bind (cell L30 (Addr.add (Addr.mk (List.length L) 0 none) 3)) (asI IntKind.i64)) fun n34 =>
                                                  obind (Option.bind (cell L30 (Addr.add (Addr.mk (List.length L) 0 none) 4)) (asI IntKind.i64)) fun n35 =>
                                                    when
                                                      (same
                                                        (Value.agg
                                                          #[Value.int IntKind.u8 n17, Value.int IntKind.u8 n18, Value.int IntKind.i64 n19, Value.int IntKind.i64 n20, Value.int IntKind.i64 n21])
                                                        (Value.agg
                                                          #[Value.int IntKind.u8 n31, Value.int IntKind.u8 n32, Value.int IntKind.i64 n33, Value.int IntKind.i64 n34, Value.int IntKind.i64 n35]))
                                                      (lbindR
                                                        (Proofs.Ytflhogapjmdkaaa.X.f47 k n17 n18 n19 n20 n21 v22 v29 (Value.func (Fn.func 55) #[] #[Value.pointer (some (Addr.mk r6 0 none))]) L30)
                                                        fun v36 L37 => Proofs.Ytflhogapjmdkaaa.X.f27_l16 k j16 p0 s1 p2 s3 r4 r5 r6 l7 n8 (IntKind.wrap IntKind.i64 (n9 + 1)) L37)))
  (lbind (Proofs.Ytflhogapjmdkaaa.X.f52 k p0 r5 L) fun v38 L39 =>
    lbind (lapp (lcall Proofs.Try.prog Proofs.Ytflhogapjmdkaaa.X.T k) v38 [Value.int IntKind.i64 256] L39) fun v40 L41 =>
      when (fitsS (ByteArray.size s1 + ByteArray.size s3))
        (obind (Option.bind (cell L41 (Addr.mk r4 0 none)) asP) fun x42 =>
          lbind (Proofs.Ytflhogapjmdkaaa.X.f58 k x42 L41) fun v43 L44 =>
            obind (asS v43) fun s45 => when (fitsS (ByteArray.size (s1 ++ s3) + ByteArray.size s45)) (some (LR.ret (Value.string (s1 ++ s3 ++ s45)) L44)))) := by kernel_rfl
theorem f46_eq (k : Nat) (n0 : Int) (L : LHeap) : Proofs.Ytflhogapjmdkaaa.X.f46 (k + 1) n0 L =
  lif (n0 != 0) (some (LR.pan (Value.iface 24 (Value.int IntKind.i64 n0)) L)) (some (LR.ret (Value.tuple #[]) L)) := by kernel_rfl
theorem f47_eq (k : Nat) (n0 : Int) (n1 : Int) (n2 : Int) (n3 : Int) (n4 : Int) (v5 : Value) (v6 : Value) (v7 : Value) (L : LHeap) : Proofs.Ytflhogapjmdkaaa.X.f47 (k + 1) n0 n1 n2 n3 n4 v5 v6 v7 L =
  obind
  (Option.bind
    (cell (L ++ [LBlk.cells [Value.int IntKind.u8 n0, Value.int IntKind.u8 n1, Value.int IntKind.i64 n2, Value.int IntKind.i64 n3, Value.int IntKind.i64 n4] 29 false 0])
      (Addr.add (Addr.mk (List.length L) 0 none) 0))
    (asI IntKind.u8))
  fun n8 =>
  lif (n8 == 1)
    (obind
      (Option.bind
        (cell (L ++ [LBlk.cells [Value.int IntKind.u8 n0, Value.int IntKind.u8 n1, Value.int IntKind.i64 n2, Value.int IntKind.i64 n3, Value.int IntKind.i64 n4] 29 false 0])
          (Addr.add (Addr.mk (List.length L) 0 none) 1))
        (asI IntKind.u8))
      fun n9 =>
      lbind
        (lapp (lcall Proofs.Try.prog Proofs.Ytflhogapjmdkaaa.X.T k) v5 [Value.int IntKind.i64 (IntKind.wrap IntKind.i64 n9)]
          (L ++ [LBlk.cells [Value.int IntKind.u8 n0, Value.int IntKind.u8 n1, Value.int IntKind.i64 n2, Value.int IntKind.i64 n3, Value.int IntKind.i64 n4] 29 false 0]))
        fun v10 L11 => some (LR.ret (Value.tuple #[]) L11))
    (lif (n8 == 2)
      (obind
        (Option.bind
          (cell (L ++ [LBlk.cells [Value.int IntKind.u8 n0, Value.int IntKind.u8 n1, Value.int IntKind.i64 n2, Value.int IntKind.i64 n3, Value.int IntKind.i64 n4] 29 false 0])
            (Addr.add (Addr.mk (List.length L) 0 none) 3))
          (asI IntKind.i64))
        fun n12 =>
        lbind
          (Proofs.Ytflhogapjmdkaaa.X.f56 k (IntKind.wrap IntKind.u64 n12)
            (L ++ [LBlk.cells [Value.int IntKind.u8 n0, Value.int IntKind.u8 n1, Value.int IntKind.i64 n2, Value.int IntKind.i64 n3, Value.int IntKind.i64 n4] 29 false 0]))
          fun v13 L14 =>
          obind (asI IntKind.i64 v13) fun n15 =>
            lbind (lapp (lcall Proofs.Try.prog Proofs.Ytflhogapjmdkaaa.X.T k) v5 [Value.int IntKind.i64 (IntKind.wrap IntKind.i64 (260 + n15))] L14) fun v16 L17 =>
              obind (Option.bind (cell L17 (Addr.add (Addr.mk (List.length L) 0 none) 3)) (asI IntKind.i64)) fun n18 =>
                lbind (lapp (lcall Proofs.Try.prog Proofs.Ytflhogapjmdkaaa.X.T k) v7 [Value.int IntKind.i64 n18] L17) fun v19 L20 =>
                  obind (Option.bind (cell L20 (Addr.add (Addr.mk (List.length L) 0 none) 2)) (asI IntKind.i64)) fun n21 =>
                    lbind (Proofs.Ytflhogapjmdkaaa.X.f56 k (IntKind.wrap IntKind.u64 (IntKind.wrap IntKind.i64 (n21 - 3))) L20) fun v22 L23 =>
                      obind (asI IntKind.i64 v22) fun n24 =>
                        lbind (lapp (lcall Proofs.Try.prog Proofs.Ytflhogapjmdkaaa.X.T k) v6 [Value.int IntKind.i64 n24] L23) fun v25 L26 =>
                          lbind (lapp (lcall Proofs.Try.prog Proofs.Ytflhogapjmdkaaa.X.T k) v7 [Value.int IntKind.i64 (IntKind.wrap IntKind.i64 (n21 - 3))] L26) fun v27 L28 =>
                            some (LR.ret (Value.tuple #[]) L28))
      (lif (n8 == 3)
        (obind
          (Option.bind
            (cell (L ++ [LBlk.cells [Value.int IntKind.u8 n0, Value.int IntKind.u8 n1, Value.int IntKind.i64 n2, Value.int IntKind.i64 n3, Value.int IntKind.i64 n4] 29 false 0])
              (Addr.add (Addr.mk (List.length L) 0 none) 4))
            (asI IntKind.i64))
          fun n29 =>
          lbind
            (lapp (lcall Proofs.Try.prog Proofs.Ytflhogapjmdkaaa.X.T k) v5 [Value.int IntKind.i64 (IntKind.wrap IntKind.i64 (257 + n29))]
              (L ++ [LBlk.cells [Value.int IntKind.u8 n0, Value.int IntKind.u8 n1, Value.int IntKind.i64 n2, Value.int IntKind.i64 n3, Value.int IntKind.i64 n4] 29 false 0]))
            fun v30 L31 =>
            obind (Option.bind (cell L31 (Addr.add (Addr.mk (List.length L) 0 none) 2)) (asI IntKind.i64)) fun n32 =>
              lbind (Proofs.Ytflhogapjmdkaaa.X.f56 k (IntKind.wrap IntKind.u64 (IntKind.wrap IntKind.i64 (n32 - 3))) L31) fun v33 L34 =>
                obind (asI IntKind.i64 v33) fun n35 =>
                  lbind (lapp (lcall Proofs.Try.prog Proofs.Ytflhogapjmdkaaa.X.T k) v6 [Value.int IntKind.i64 n35] L34) fun v36 L37 =>
                    lbind (lapp (lcall Proofs.Try.prog Proofs.Ytflhogapjmdkaaa.X.T k) v7 [Value.int IntKind.i64 (IntKind.wrap IntKind.i64 (n32 - 3))] L37) fun v38 L39 =>
                      some (LR.ret (Value.tuple #[]) L39))
        (obind
          (Option.bind
            (cell (L ++ [LBlk.cells [Value.int IntKind.u8 n0, Value.int IntKind.u8 n1, Value.int IntKind.i64 n2, Value.int IntKind.i64 n3, Value.int IntKind.i64 n4] 29 false 0])
              (Addr.add (Addr.mk (List.length L) 0 none) 2))
            (asI IntKind.i64))
          fun n40 =>
          lbind
            (Proofs.Ytflhogapjmdkaaa.X.f56 k (IntKind.wrap IntKind.u64 (IntKind.wrap IntKind.i64 (n40 - 3)))
              (L ++ [LBlk.cells [Value.int IntKind.u8 n0, Value.int IntKind.u8 n1, Value.int IntKind.i64 n2, Value.int IntKind.i64 n3, Value.int IntKind.i64 n4] 29 false 0]))
            fun v41 L42 =>
            obind (asI IntKind.i64 v41) fun n43 =>
              lbind (lapp (lcall Proofs.Try.prog Proofs.Ytflhogapjmdkaaa.X.T k) v6 [Value.int IntKind.i64 n43] L42) fun v44 L45 =>
                lbind (lapp (lcall Proofs.Try.prog Proofs.Ytflhogapjmdkaaa.X.T k) v7 [Value.int IntKind.i64 (IntKind.wrap IntKind.i64 (n40 - 3))] L45) fun v46 L47 =>
                  some (LR.ret (Value.tuple #[]) L47)))) := by kernel_rfl
theorem f48_eq (k : Nat) (n0 : Int) (r1 : Nat) (L : LHeap) : Proofs.Ytflhogapjmdkaaa.X.f48 (k + 1) n0 r1 L =
  when (decide (0 ≤ n0))
  (when (decide (n0 < 277))
    (obind (Option.bind (cell L (Addr.add (Addr.mk r1 0 none) (Int.toNat n0 * 1))) (asI IntKind.i64)) fun n2 =>
      when (decide (0 ≤ n0))
        (when (decide (n0 < 277))
          (obind (stores L (Addr.add (Addr.mk r1 0 none) (Int.toNat n0 * 1)) [Value.int IntKind.i64 (IntKind.wrap IntKind.i64 (n2 + 1))]) fun L3 => some (LR.ret (Value.tuple #[]) L3))))) := by kernel_rfl
theorem f49_eq (k : Nat) (n0 : Int) (r1 : Nat) (L : LHeap) : Proofs.Ytflhogapjmdkaaa.X.f49 (k + 1) n0 r1 L =
  when (decide (0 ≤ n0))
  (when (decide (n0 < 277))
    (obind (Option.bind (cell L (Addr.add (Addr.mk r1 0 none) (Int.toNat n0 * 1))) (asI IntKind.i64)) fun n2 =>
      when (decide (0 ≤ n0))
        (when (decide (n0 < 277))
          (obind (stores L (Addr.add (Addr.mk r1 0 none) (Int.toNat n0 * 1)) [Value.int IntKind.i64 (IntKind.wrap IntKind.i64 (n2 + 1))]) fun L3 => some (LR.ret (Value.tuple #[]) L3))))) := by kernel_rfl
theorem f50_eq (k : Nat) (n0 : Int) (L : LHeap) : Proofs.Ytflhogapjmdkaaa.X.f50 (k + 1) n0 L =
  some (LR.ret (Value.tuple #[]) L) := by kernel_rfl
theorem f51_eq (k : Nat) (l0 : Sl) (L : LHeap) : Proofs.Ytflhogapjmdkaaa.X.f51 (k + 1) l0 L =
  lbind (Proofs.Ytflhogapjmdkaaa.X.f75 k l0 L) fun v1 L2 =>
  obind (tupL v1) fun x3 =>
    uncons x3 fun v4 vs5 =>
      obind (asSl v4) fun l6 =>
        uncons vs5 fun v7 vs8 =>
          obind (asI IntKind.i64 v7) fun n9 =>
            nilL vs8
              (lbind (Proofs.Ytflhogapjmdkaaa.X.f46 k n9 L2) fun v10 L11 =>
                lbind (Proofs.Ytflhogapjmdkaaa.X.f76 k l6 L11) fun v12 L13 =>
                  obind (tupL v12) fun x14 =>
                    uncons x14 fun v15 vs16 =>
                      obind (asS v15) fun s17 =>
                        uncons vs16 fun v18 vs19 =>
                          obind (asI IntKind.i64 v18) fun n20 =>
                            nilL vs19
                              (lbind (Proofs.Ytflhogapjmdkaaa.X.f46 k n20 L13) fun v21 L22 =>
                                lbind (Proofs.Ytflhogapjmdkaaa.X.f63 k l6 L22) fun v23 L24 =>
                                  obind (tupL v23) fun x25 =>
                                    uncons x25 fun v26 vs27 =>
                                      obind (asP v26) fun x28 =>
                                        uncons vs27 fun v29 vs30 =>
                                          obind (asI IntKind.i64 v29) fun n31 =>
                                            nilL vs30 (lbind (Proofs.Ytflhogapjmdkaaa.X.f46 k n31 L24) fun v32 L33 => some (LR.ret (Value.tuple #[Value.pointer x28, Value.string s17]) L33)))) := by kernel_rfl
theorem f52_eq (k : Nat) (p0 : Option Addr) (r1 : Nat) (L : LHeap) : Proofs.Ytflhogapjmdkaaa.X.f52 (k + 1) p0 r1 L =
  some (LR.ret (Value.func (Fn.func 53) #[] #[Value.pointer (some (Addr.mk (List.length L) 0 none)), Value.pointer (some (Addr.mk r1 0 none))]) (L ++ [LBlk.cells [Value.pointer p0] 58 false 0])) := by kernel_rfl
theorem f53_eq (k : Nat) (n0 : Int) (r1 : Nat) (r2 : Nat) (L : LHeap) : Proofs.Ytflhogapjmdkaaa.X.f53 (k + 1) n0 r1 r2 L =
  obind (Option.bind (cell L (Addr.mk r1 0 none)) asP) fun x3 =>
  obind (Option.bind (cell L (Addr.mk r2 0 none)) asP) fun x4 =>
    lbind (Proofs.Ytflhogapjmdkaaa.X.f54 k x3 x4 n0 L) fun v5 L6 => obind (asI IntKind.i64 v5) fun n7 => lbind (Proofs.Ytflhogapjmdkaaa.X.f46 k n7 L6) fun v8 L9 => some (LR.ret (Value.tuple #[]) L9) := by kernel_rfl
theorem f55_eq (k : Nat) (n0 : Int) (r1 : Nat) (L : LHeap) : Proofs.Ytflhogapjmdkaaa.X.f55 (k + 1) n0 r1 L =
  lbind (Proofs.Ytflhogapjmdkaaa.X.f56 k (IntKind.wrap IntKind.u64 n0) L) fun v2 L3 =>
  obind (asI IntKind.i64 v2) fun n4 =>
    lif (decide (n4 > 1))
      (obind (Option.bind (cell L3 (Addr.mk r1 0 none)) asP) fun x5 =>
        when (!decide (IntKind.wrap IntKind.i64 (n4 - 1) < 0))
          (lbindR
            (Proofs.Ytflhogapjmdkaaa.X.f57 k x5
              (bitop BinOp.and IntKind.u32 (IntKind.wrap IntKind.u32 n0) (IntKind.wrap IntKind.u32 (IntKind.wrap IntKind.u32 (1 * 2 ^ min (Int.toNat (IntKind.wrap IntKind.i64 (n4 - 1))) 32) - 1)))
              (IntKind.wrap IntKind.i64 (n4 - 1)) L3)
            fun v6 L7 => obind (asI IntKind.i64 v6) fun n8 => some (LR.ret (Value.tuple #[]) L7)))
      (some (LR.ret (Value.tuple #[]) L3)) := by kernel_rfl
theorem f56_eq (k : Nat) (n0 : Int) (L : LHeap) : Proofs.Ytflhogapjmdkaaa.X.f56 (k + 1) n0 L =
  lbind (Proofs.Ytflhogapjmdkaaa.X.f78 k n0 L) fun v1 L2 => obind (asI IntKind.i64 v1) fun n3 => some (LR.ret (Value.int IntKind.i64 n3) L2) := by kernel_rfl
theorem f76_eq (k : Nat) (l0 : Sl) (L : LHeap) : Proofs.Ytflhogapjmdkaaa.X.f76 (k + 1) l0 L =
  lbind (Proofs.Ytflhogapjmdkaaa.X.f91 k l0 (Value.func (Fn.func 95) #[] #[]) L) fun v1 L2 =>
  obind (asB v1) fun b3 =>
    lif b3 (some (LR.ret (Value.tuple #[Value.string (ByteArray.mk #[]), Value.int IntKind.i64 4]) L2))
      (lbind (Proofs.Ytflhogapjmdkaaa.X.f96 k l0 (L2 ++ [LBlk.cells [Value.slice none 0 0] 36 false 0])) fun v4 L5 =>
        lbindR
          (lappF (lcall Proofs.Try.prog Proofs.Ytflhogapjmdkaaa.X.T k) v4 [Value.func (Fn.yield (List.length L5)) #[] #[]]
            (L5 ++ [LBlk.loop 76 7 [(4, Value.pointer (some (Addr.mk (List.length L2) 0 none)))] LSt.ready]))
          fun v6 L7 =>
          lend (List.length L5) L7
            (fun L8 =>
              obind (Option.bind (cell L8 (Addr.mk (List.length L2) 0 none)) asSl) fun l10 =>
                obind (bytesOf L8 l10) fun s11 => some (LR.ret (Value.tuple #[Value.string s11, Value.int IntKind.i64 0]) L8))
            fun e9 L8 => none) := by kernel_rfl
/-- a round; slots 4 -/
noncomputable def r76_7 (k : Nat) (r12 : Nat) (j : Nat) (n13 : Int) (n14 : Int) (L : LHeap) : R :=
  lround Proofs.Try.prog Proofs.Ytflhogapjmdkaaa.X.T (lcall Proofs.Try.prog Proofs.Ytflhogapjmdkaaa.X.T k) k 76 7 [(4, Value.pointer (some (Addr.mk r12 0 none)))] j
  [Value.int IntKind.i64 n13, Value.int IntKind.i64 n14] L
theorem r76_7_eq (k : Nat) (r12 : Nat) (j : Nat) (n13 : Int) (n14 : Int) (L : LHeap) : Proofs.Ytflhogapjmdkaaa.X.r76_7 k r12 j n13 n14 L =
  lbusy j L fun L15 =>
  obind (Option.bind (cell L15 (Addr.mk r12 0 none)) asSl) fun l16 =>
    obind
      (srcOf (L15 ++ [LBlk.cells [Value.int IntKind.u8 (IntKind.wrap IntKind.u8 (bitop BinOp.or IntKind.i64 (IntKind.wrap IntKind.i64 (n13 * 16)) (IntKind.wrap IntKind.i64 (n14 - 1))))] 5 false 0])
        Proofs.Try.prog.types[5].size 1 (Value.slice (some (Addr.mk (List.length L15) 0 none)) 1 1))
      fun x17 =>
      obind
        (app (L15 ++ [LBlk.cells [Value.int IntKind.u8 (IntKind.wrap IntKind.u8 (bitop BinOp.or IntKind.i64 (IntKind.wrap IntKind.i64 (n13 * 16)) (IntKind.wrap IntKind.i64 (n14 - 1))))] 5 false 0]) 5
          Proofs.Try.prog.types[5].size Proofs.Try.prog.types[5].bytes l16 1 x17)
        fun x18 => obind (stores x18.snd (Addr.mk r12 0 none) [Value.slice x18.fst.a x18.fst.n x18.fst.c]) fun L19 => lleave j LExit.normal L19 := by kernel_rfl
theorem f78_eq (k : Nat) (n0 : Int) (L : LHeap) : Proofs.Ytflhogapjmdkaaa.X.f78 (k + 1) n0 L =
  lif (decide (n0 ≥ 4294967296))
  (lif (decide (Int.fdiv n0 4294967296 ≥ 65536))
    (lif (decide (Int.fdiv (Int.fdiv n0 4294967296) 65536 ≥ 256))
      (obind
        (byteAt
          len8tab
          (IntKind.wrap IntKind.u8 (Int.fdiv (Int.fdiv (Int.fdiv n0 4294967296) 65536) 256)))
        fun n1 => some (LR.ret (Value.int IntKind.i64 (IntKind.wrap IntKind.i64 (56 + IntKind.wrap IntKind.i64 n1))) L))
      (obind
        (byteAt
          len8tab
          (IntKind.wrap IntKind.u8 (Int.fdiv (Int.fdiv n0 4294967296) 65536)))
        fun n2 => some (LR.ret (Value.int IntKind.i64 (IntKind.wrap IntKind.i64 (48 + IntKind.wrap IntKind.i64 n2))) L)))
    (lif (decide (Int.fdiv n0 4294967296 ≥ 256))
      (obind
        (byteAt
          len8tab
          (IntKind.wrap IntKind.u8 (Int.fdiv (Int.fdiv n0 4294967296) 256)))
        fun n3 => some (LR.ret (Value.int IntKind.i64 (IntKind.wrap IntKind.i64 (40 + IntKind.wrap IntKind.i64 n3))) L))
      (obind
        (byteAt
          len8tab
          (IntKind.wrap IntKind.u8 (Int.fdiv n0 4294967296)))
        fun n4 => some (LR.ret (Value.int IntKind.i64 (IntKind.wrap IntKind.i64 (32 + IntKind.wrap IntKind.i64 n4))) L))))
  (lif (decide (n0 ≥ 65536))
    (lif (decide (Int.fdiv n0 65536 ≥ 256))
      (obind
        (byteAt
          len8tab
          (IntKind.wrap IntKind.u8 (Int.fdiv (Int.fdiv n0 65536) 256)))
        fun n5 => some (LR.ret (Value.int IntKind.i64 (IntKind.wrap IntKind.i64 (24 + IntKind.wrap IntKind.i64 n5))) L))
      (obind
        (byteAt
          len8tab
          (IntKind.wrap IntKind.u8 (Int.fdiv n0 65536)))
        fun n6 => some (LR.ret (Value.int IntKind.i64 (IntKind.wrap IntKind.i64 (16 + IntKind.wrap IntKind.i64 n6))) L)))
    (lif (decide (n0 ≥ 256))
      (obind
        (byteAt
          len8tab
          (IntKind.wrap IntKind.u8 (Int.fdiv n0 256)))
        fun n7 => some (LR.ret (Value.int IntKind.i64 (IntKind.wrap IntKind.i64 (8 + IntKind.wrap IntKind.i64 n7))) L))
      (obind
        (byteAt
          len8tab
          (IntKind.wrap IntKind.u8 n0))
        fun n8 => some (LR.ret (Value.int IntKind.i64 (IntKind.wrap IntKind.i64 (0 + IntKind.wrap IntKind.i64 n8))) L)))) := by kernel_rfl
theorem f95_eq (k : Nat) (n0 : Int) (L : LHeap) : Proofs.Ytflhogapjmdkaaa.X.f95 (k + 1) n0 L =
  lif (decide (n0 < 0)) (some (LR.ret (Value.bool true) L)) (some (LR.ret (Value.bool (decide (n0 > 15))) L)) := by kernel_rfl
theorem f96_eq (k : Nat) (l0 : Sl) (L : LHeap) : Proofs.Ytflhogapjmdkaaa.X.f96 (k + 1) l0 L =
  some (LR.ret (Value.func (Fn.func 104) #[] #[Value.pointer (some (Addr.mk (List.length L) 0 none))]) (L ++ [LBlk.cells [Value.slice l0.a l0.n l0.c] 49 false 0])) := by kernel_rfl
/-- slots 0, 1 -/
noncomputable def f104_l0 (k : Nat) (j0 : Nat) (y38 : Nat) (r39 : Nat) (L : LHeap) : R :=
  loopAt Proofs.Try.prog Proofs.Ytflhogapjmdkaaa.X.T 104 k [0] [] j0 [(0, Value.func (Fn.yield y38) #[] #[]), (1, Value.pointer (some (Addr.mk r39 0 none)))] L
/-- slots 0, 1, 3 -/
noncomputable def f104_l2 (k : Nat) (j0_40 : Nat) (j2 : Nat) (y41 : Nat) (r42 : Nat) (n43 : Int) (L : LHeap) : R :=
  loopAt Proofs.Try.prog Proofs.Ytflhogapjmdkaaa.X.T 104 k [0, 0, 1, 0, 1, 0, 0] [j0_40] j2
  [(0, Value.func (Fn.yield y41) #[] #[]), (1, Value.pointer (some (Addr.mk r42 0 none))), (3, Value.int IntKind.i64 n43)] L
theorem f104_eq (k : Nat) (y0 : Nat) (r1 : Nat) (L : LHeap) : Proofs.Ytflhogapjmdkaaa.X.f104 (k + 1) y0 r1 L =
  Proofs.Ytflhogapjmdkaaa.X.f104_l0 k k y0 r1 L := by kernel_rfl
theorem f104_l0_eq (k : Nat) (j0 : Nat) (y0 : Nat) (r1 : Nat) (L : LHeap) : Proofs.Ytflhogapjmdkaaa.X.f104_l0 k (j0 + 1) y0 r1 L =
  obind (Option.bind (cell L (Addr.mk r1 0 none)) asSl) fun l2 => lif (decide ((↑l2.n : Int) > 0)) (Proofs.Ytflhogapjmdkaaa.X.f104_l2 k j0 k y0 r1 1 L) (some (LR.ret (Value.tuple #[]) L)) := by kernel_rfl
theorem f104_l2_eq (k : Nat) (j0_0 : Nat) (j2 : Nat) (y1 : Nat) (r2 : Nat) (n3 : Int) (L : LHeap) : Proofs.Ytflhogapjmdkaaa.X.f104_l2 k j0_0 (j2 + 1) y1 r2 n3 L =
  lif (decide (n3 < 16))
  (obind (Option.bind (cell L (Addr.mk r2 0 none)) asSl) fun l4 =>
    lif (decide (n3 < (↑l4.n : Int)))
      (obind (Option.bind (cell L (Addr.mk r2 0 none)) asSl) fun l5 =>
        obind (idx l5 n3 1) fun a6 =>
          obind (Option.bind (cell L a6) (asI IntKind.i64)) fun n7 =>
            obind (Option.bind (cell L (Addr.mk r2 0 none)) asSl) fun l8 =>
              obind (idx l8 0 1) fun a9 =>
                obind (Option.bind (cell L a9) (asI IntKind.i64)) fun n10 =>
                  lif (n7 == n10) (Proofs.Ytflhogapjmdkaaa.X.f104_l2 k j0_0 j2 y1 r2 (IntKind.wrap IntKind.i64 (n3 + 1)) L)
                    (obind (Option.bind (cell L (Addr.mk r2 0 none)) asSl) fun l11 =>
                      obind (idx l11 0 1) fun a12 =>
                        obind (Option.bind (cell L a12) (asI IntKind.i64)) fun n13 =>
                          lbind (lcall Proofs.Try.prog Proofs.Ytflhogapjmdkaaa.X.T k (YB + y1) [Value.int IntKind.i64 n13, Value.int IntKind.i64 n3] L) fun v14 L15 =>
                            obind (asB v14) fun b16 =>
                              lif (!b16) (some (LR.ret (Value.tuple #[]) L15))
                                (obind (Option.bind (cell L15 (Addr.mk r2 0 none)) asSl) fun l17 =>
                                  obind (cut L15 l17 (some n3) none none 1) fun l18 =>
                                    obind (stores L15 (Addr.mk r2 0 none) [Value.slice l18.a l18.n l18.c]) fun L19 => Proofs.Ytflhogapjmdkaaa.X.f104_l0 k j0_0 y1 r2 L19)))
      (obind (Option.bind (cell L (Addr.mk r2 0 none)) asSl) fun l20 =>
        obind (idx l20 0 1) fun a21 =>
          obind (Option.bind (cell L a21) (asI IntKind.i64)) fun n22 =>
            lbind (lcall Proofs.Try.prog Proofs.Ytflhogapjmdkaaa.X.T k (YB + y1) [Value.int IntKind.i64 n22, Value.int IntKind.i64 n3] L) fun v23 L24 =>
              obind (asB v23) fun b25 =>
                lif (!b25) (some (LR.ret (Value.tuple #[]) L24))
                  (obind (Option.bind (cell L24 (Addr.mk r2 0 none)) asSl) fun l26 =>
                    obind (cut L24 l26 (some n3) none none 1) fun l27 =>
                      obind (stores L24 (Addr.mk r2 0 none) [Value.slice l27.a l27.n l27.c]) fun L28 => Proofs.Ytflhogapjmdkaaa.X.f104_l0 k j0_0 y1 r2 L28)))
  (obind (Option.bind (cell L (Addr.mk r2 0 none)) asSl) fun l29 =>
    obind (idx l29 0 1) fun a30 =>
      obind (Option.bind (cell L a30) (asI IntKind.i64)) fun n31 =>
        lbind (lcall Proofs.Try.prog Proofs.Ytflhogapjmdkaaa.X.T k (YB + y1) [Value.int IntKind.i64 n31, Value.int IntKind.i64 n3] L) fun v32 L33 =>
          obind (asB v32) fun b34 =>
            lif (!b34) (some (LR.ret (Value.tuple #[]) L33))
              (obind (Option.bind (cell L33 (Addr.mk r2 0 none)) asSl) fun l35 =>
                obind (cut L33 l35 (some n3) none none 1) fun l36 =>
                  obind (stores L33 (Addr.mk r2 0 none) [Value.slice l36.a l36.n l36.c]) fun L37 => Proofs.Ytflhogapjmdkaaa.X.f104_l0 k j0_0 y1 r2 L37)) := by kernel_rfl
end Go.Proofs.Ytflhogapjmdkaaa.X
end

section
namespace Go.Rlm
def OZ (L : LHeap) (s : Sl) (vs : List Value) (e : TypeId) (z : Nat) (F : List Nat) : Prop :=
  s.n * z = vs.length ∧ 0 < z ∧ ((s = ⟨none, 0, 0⟩ ∧ vs = [] ∧ F = []) ∨ ∃ c, s = ⟨some ⟨c, 0, none⟩, s.n, OPEN⟩ ∧ L[c]? = some (.cells vs e false z) ∧ F = [c])
theorem OZ.nil (L : LHeap) (e : TypeId) {z : Nat} (hz : 0 < z) : OZ L ⟨none, 0, 0⟩ [] e z [] := ⟨by simp, hz, .inl ⟨rfl, rfl, rfl⟩⟩
theorem OZ.mono {L L' : LHeap} {s : Sl} {vs : List Value} {e : TypeId} {z : Nat} {F : List Nat} (h : OZ L s vs e z F) (hk : ∀ i ∈ F, L'[i]? = L[i]?) : OZ L' s vs e z F := by
  obtain ⟨h1, h2, h | ⟨c, h3, h4, rfl⟩⟩ := h
  · exact ⟨h1, h2, .inl h⟩
  · exact ⟨h1, h2, .inr ⟨c, h3, by rw [hk c (by simp), h4], rfl⟩⟩
theorem OZ.within {L : LHeap} {s : Sl} {vs : List Value} {e : TypeId} {z : Nat} {F : List Nat} (h : OZ L s vs e z F) : Within F L := by
  obtain ⟨h1, h2, ⟨_, _, rfl⟩ | ⟨c, h3, h4, rfl⟩⟩ := h
  · intro i hi; simp at hi
  · intro i hi; simp at hi; subst hi; exact get_lt h4
theorem OZ.get {L : LHeap} {s : Sl} {vs : List Value} {e : TypeId} {z : Nat} {F : List Nat} (h : OZ L s vs e z F) {i : Nat} (hi : i < s.n) :
    ∃ c, idx s (i : Int) z = some ⟨c, i * z, none⟩ ∧ ∀ L', (∀ x ∈ F, L'[x]? = L[x]?) → ∀ o, cell L' ⟨c, o, none⟩ = vs[o]? := by
  obtain ⟨h1, h2, ⟨rfl, _, _⟩ | ⟨c, h3, h4, rfl⟩⟩ := h
  · simp at hi
  · refine ⟨c, ?_, fun L' hk o => cell_of (by rw [hk c (by simp), h4])⟩
    rw [h3, idx_of hi]
    simp
theorem OZ.app {L : LHeap} {s : Sl} {vs : List Value} {e : TypeId} {z : Nat} {F : List Nat} (h : OZ L s vs e z F) (news : List Value) (q bytes : Nat) (hq : 0 < q) (hn : news.length = q * z)
    (hb : (s.n + q) * bytes ≤ 2 ^ 47) (hl : s.n + q ≤ 2 ^ 62) :
    ∃ s' L' F', Rlm.app L e z bytes s q news = some (s', L') ∧ OZ L' s' (vs ++ news) e z F' ∧ s'.n = s.n + q ∧ Step F L F' L' := by
  obtain ⟨h1, h2, ⟨rfl, rfl, rfl⟩ | ⟨c, h3, h4, rfl⟩⟩ := h
  · refine ⟨⟨some ⟨L.length, 0, none⟩, q, OPEN⟩, L ++ [.cells news e false z], [L.length], ?_, ⟨by simp [hn], h2, .inr ⟨L.length, by simp, by simp, rfl⟩⟩, by simp, .new [] L _⟩
    simp only [Nat.zero_add] at hb hl
    have hf : Nat.ble q 0 = false := by
      cases hc : Nat.ble q 0 with
      | false => rfl
      | true => have := Nat.le_of_ble_eq_true hc; omega
    simp only [Rlm.app, Nat.zero_add]
    rw [show Nat.blt 0 OPEN = true from rfl, hf, Nat.ble_eq_true_of_le hb, Nat.ble_eq_true_of_le hl]
    simp [srcCells]
  · have hx : blen L ⟨c, 0, none⟩ z = some s.n := by
      simp only [blen, h4, Nat.beq_refl, Bool.true_and, Nat.sub_zero]
      rw [show Nat.blt 0 z = true from Nat.ble_eq_true_of_le h2, cond_true, ← h1, Nat.mul_div_cancel _ h2]
    generalize hsn : s.n = n at *
    subst h3
    have hf : Nat.ble (n + q) n = false := by
      cases hc : Nat.ble (n + q) n with
      | false => rfl
      | true => have := Nat.le_of_ble_eq_true hc; omega
    refine ⟨⟨some ⟨L.length, 0, none⟩, n + q, OPEN⟩, L.set c .dead ++ [.cells (vs ++ news) e false z], [L.length], ?_, ⟨by simp [hn, Nat.add_mul, h1], h2, .inr ⟨L.length, by simp, by rw [← (List.length_set : (L.set c LBlk.dead).length = L.length)]; exact get_new, rfl⟩⟩, rfl, ?_⟩
    · simp only [Rlm.app]
      rw [show Nat.blt OPEN OPEN = false by decide, show Nat.beq OPEN OPEN = true from Nat.beq_refl _]
      simp only [cond_true, cond_false, hx]
      rw [hf, Nat.ble_eq_true_of_le hb, Nat.ble_eq_true_of_le hl]
      simp [h4, Nat.ble_eq_true_of_le, h1]
    · refine ⟨by simp, fun i hi hn => ?_, fun i hi => by simp at hi; subst hi; exact .inr (Nat.le_refl _)⟩
      rw [get_push (by simpa using hi), get_set_ne (fun e => hn (by simp [e]))]
end Go.Rlm
end

section
namespace Go.Rlm
def iV (n : Int) : Value := .int .i64 n
def uV (n : Nat) : Value := .int .u32 (n : Int)
/-- These cells can be read by it; they stand in the block that A names. -/
def Rd (L : LHeap) (s : Sl) (vs : List Value) (A : List Nat) : Prop :=
  s.n = vs.length ∧ ((vs = [] ∧ A = []) ∨ ∃ (c o : Nat) (cs : List Value) (e : TypeId) (ro : Bool) (sp : Nat), s.a = some ⟨c, o, none⟩ ∧ L[c]? = some (.cells cs e ro sp) ∧ (∀ i, i < vs.length → cs[o + i]? = vs[i]?) ∧ A = [c])
theorem Rd.len {L : LHeap} {s : Sl} {vs : List Value} {A : List Nat} (h : Rd L s vs A) : s.n = vs.length := h.1
theorem Rd.mono {L L' : LHeap} {s : Sl} {vs : List Value} {A : List Nat} (h : Rd L s vs A) (hk : ∀ i ∈ A, L'[i]? = L[i]?) : Rd L' s vs A := by
  obtain ⟨h1, h | ⟨c, o, cs, e, ro, sp, h2, h3, h4, rfl⟩⟩ := h
  · exact ⟨h1, .inl h⟩
  · exact ⟨h1, .inr ⟨c, o, cs, e, ro, sp, h2, by rw [hk c (by simp), h3], h4, rfl⟩⟩
theorem Rd.within {L : LHeap} {s : Sl} {vs : List Value} {A : List Nat} (h : Rd L s vs A) : Within A L := by
  obtain ⟨h1, ⟨_, rfl⟩ | ⟨c, o, cs, e, ro, sp, h2, h3, h4, rfl⟩⟩ := h
  · intro i hi; simp at hi
  · intro i hi; simp at hi; subst hi; exact get_lt h3
theorem Rd.get {L : LHeap} {s : Sl} {vs : List Value} {A : List Nat} (h : Rd L s vs A) {i : Nat} (hi : i < vs.length) :
    ∃ a, idx s (i : Int) 1 = some a ∧ ∀ L', (∀ x ∈ A, L'[x]? = L[x]?) → cell L' a = vs[i]? := by
  obtain ⟨h1, ⟨rfl, _⟩ | ⟨c, o, cs, e, ro, sp, h2, h3, h4, rfl⟩⟩ := h
  · simp at hi
  · refine ⟨⟨c, o + i * 1, none⟩, ?_, fun L' hk => ?_⟩
    · have := idx_of (b := c) (o := o) (n := s.n) (c := s.c) (esz := 1) (i := i) (by omega)
      rw [← h2] at this
      exact this
    · rw [cell_of (by rw [hk c (by simp), h3]), Nat.mul_one, h4 i hi]
theorem Rd.here {L : LHeap} {s : Sl} {vs : List Value} {A : List Nat} (h : Rd L s vs A) {i : Nat} {v : Value} (hv : vs[i]? = some v) : ∃ a, idx s (i : Int) 1 = some a ∧ cell L a = some v := by
  obtain ⟨a, h1, h2⟩ := h.get (get_lt hv)
  exact ⟨a, h1, by rw [h2 L fun _ _ => rfl, hv]⟩
theorem Inp.rd {L : LHeap} {l : Sl} {vs : List Value} {A : List Nat} (h : Inp L l 1 vs A) : Rd L l vs A := by
  obtain ⟨h1, h | ⟨c, h2, h3, h4⟩⟩ := h
  · exact ⟨by omega, .inl h⟩
  · exact ⟨by omega, .inr ⟨c, 0, vs, 0, true, 0, h2, h3, fun i _ => by simp, h4⟩⟩
theorem Rd.src {L : LHeap} {s : Sl} {vs : List Value} {A : List Nat} (h : Rd L s vs A) : srcOf L 1 s.n (.slice s.a s.n s.c) = some vs := by
  obtain ⟨h1, ⟨rfl, _⟩ | ⟨c, o, cs, e, ro, sp, h2, h3, h4, rfl⟩⟩ := h
  · simp only [List.length_nil] at h1
    simp only [srcOf, srcCells, h1]
    rfl
  · simp only [srcOf, srcCells, h1, h2]
    cases hv : vs with
    | nil => rfl
    | cons v vs' =>
      rw [hv] at h4
      have hle : o + (v :: vs').length ≤ cs.length := by
        have := h4 vs'.length (by simp)
        rw [List.getElem?_eq_getElem (l := v :: vs') (by simp)] at this
        have := get_lt this
        simp; omega
      simp only [List.length_cons, show Nat.beq (vs'.length + 1) 0 = false from rfl, cond_false, cellsAt, h3, Nat.mul_one]
      simp only [List.length_cons] at hle
      rw [Nat.ble_eq_true_of_le hle, cond_true]
      congr 1
      apply List.ext_getElem?
      intro i
      rw [List.getElem?_take]
      split
      · rename_i hi
        rw [List.getElem?_drop]
        exact h4 i (by simpa using hi)
      · rw [List.getElem?_eq_none (by simp; omega)]
def WS (L : LHeap) (s : Sl) (vs : List Value) (e : TypeId) (F : List Nat) : Prop :=
  (s = ⟨none, 0, 0⟩ ∧ vs = [] ∧ F = []) ∨ ∃ c cap sp, s = ⟨some ⟨c, 0, none⟩, vs.length, cap⟩ ∧ L[c]? = some (.cells vs e false sp) ∧ (cap = vs.length ∨ (cap = OPEN ∧ sp = 1)) ∧ F = [c]
theorem WS.mono {L L' : LHeap} {s : Sl} {vs : List Value} {e : TypeId} {F : List Nat} (h : WS L s vs e F) (hk : ∀ i ∈ F, L'[i]? = L[i]?) : WS L' s vs e F := by
  rcases h with h | ⟨c, cap, sp, h1, h2, hc, rfl⟩
  · exact .inl h
  · exact .inr ⟨c, cap, sp, h1, by rw [hk c (by simp), h2], hc, rfl⟩
theorem WS.rd {L : LHeap} {s : Sl} {vs : List Value} {e : TypeId} {F : List Nat} (h : WS L s vs e F) : Rd L s vs F := by
  rcases h with ⟨rfl, rfl, rfl⟩ | ⟨c, cap, sp, rfl, h2, hc, rfl⟩
  · exact ⟨rfl, .inl ⟨rfl, rfl⟩⟩
  · exact ⟨rfl, .inr ⟨c, 0, vs, e, false, sp, rfl, h2, fun i _ => by simp, rfl⟩⟩
theorem WS.within {L : LHeap} {s : Sl} {vs : List Value} {e : TypeId} {F : List Nat} (h : WS L s vs e F) : Within F L := h.rd.within
theorem WS.len {L : LHeap} {s : Sl} {vs : List Value} {e : TypeId} {F : List Nat} (h : WS L s vs e F) : s.n = vs.length := h.rd.len
theorem OS.ws {L : LHeap} {s : Sl} {vs : List Value} {e : TypeId} {F : List Nat} (h : OS L s vs e F) : WS L s vs e F := by
  rcases h with h | ⟨c, h1, h2, h3⟩
  · exact .inl h
  · exact .inr ⟨c, OPEN, 1, h1, h2, .inr ⟨rfl, rfl⟩, h3⟩
theorem WS.put {L : LHeap} {s : Sl} {vs : List Value} {e : TypeId} {F : List Nat} (h : WS L s vs e F) {i : Nat} (hi : i < vs.length) (v : Value) :
    ∃ a L', idx s (i : Int) 1 = some a ∧ stores L a [v] = some L' ∧ WS L' s (vs.set i v) e F ∧ Step F L F L' := by
  rcases h with ⟨rfl, rfl, rfl⟩ | ⟨c, cap, sp, rfl, h2, hc, rfl⟩
  · simp at hi
  · refine ⟨⟨c, 0 + i * 1, none⟩, _, idx_of hi, stores_of h2 (by simp; omega), .inr ⟨c, cap, sp, by simp, ?_, by simpa using hc, rfl⟩, .set _ (by simp)⟩
    rw [get_set_self h2]; simp [setAll]
theorem flat_rep (n : Nat) (v : Value) : List.flatten (List.replicate n [v]) = List.replicate n v := by
  induction n with
  | zero => rfl
  | succ n ih => simp [List.replicate_succ, ih]
theorem WS.made {L : LHeap} {n : Nat} {v : Value} {e : TypeId} : WS (L ++ [LBlk.cells (List.flatten (List.replicate n [v])) e false 0]) ⟨some ⟨L.length, 0, none⟩, n, n⟩ (List.replicate n v) e [L.length] :=
  .inr ⟨L.length, n, 0, by simp, by rw [get_new, flat_rep], .inl (by simp), rfl⟩
theorem WS.lit {L : LHeap} {vs : List Value} {e : TypeId} {n : Nat} (hn : n = vs.length) : WS (L ++ [LBlk.cells vs e false 0]) ⟨some ⟨L.length, 0, none⟩, n, n⟩ vs e [L.length] :=
  .inr ⟨L.length, n, 0, by simp [hn], get_new, .inl hn, rfl⟩
theorem room_ok {n b : Nat} (h1 : n * b ≤ 2 ^ 47) (h2 : n < 2 ^ 62) : room (n : Int) (n : Int) b = true := by
  rw [room_iff]
  have : (n : Int) * (b : Int) = ((n * b : Nat) : Int) := by push_cast; rfl
  rw [this]
  omega
/-- A copy: append to an empty one. -/
theorem copy_ok {L : LHeap} {vs : List Value} (e : TypeId) (bytes : Nat) (hb : vs.length * bytes ≤ 2 ^ 47) (hl : vs.length ≤ 2 ^ 62) :
    ∃ s' L' F', Rlm.app (L ++ [LBlk.cells [] e false 0]) e 1 bytes ⟨some ⟨L.length, 0, none⟩, 0, 0⟩ vs.length vs = some (s', L') ∧ WS L' s' vs e F' ∧ Step [] L F' L' ∧ s'.a ≠ none := by
  simp only [Rlm.app, Nat.zero_add]
  rw [show Nat.blt 0 OPEN = true from rfl, cond_true]
  cases vs with
  | nil =>
    refine ⟨⟨some ⟨L.length, 0, none⟩, 0, 0⟩, _, [L.length], rfl, .inr ⟨L.length, 0, 0, rfl, get_new, .inl rfl, rfl⟩, .new [] L _, by simp⟩
  | cons v vs =>
    have hf : Nat.ble (v :: vs).length 0 = false := rfl
    rw [hf, Nat.ble_eq_true_of_le hb, Nat.ble_eq_true_of_le hl]
    simp only [cond_false, Bool.and_self, cond_true, srcCells, Nat.beq_refl, Option.bind_eq_bind, Option.bind_some, List.nil_append]
    refine ⟨⟨some ⟨(L ++ [LBlk.cells [] e false 0]).length, 0, none⟩, (v :: vs).length, OPEN⟩, _, [(L ++ [LBlk.cells [] e false 0]).length], rfl, .inr ⟨_, OPEN, 1, rfl, get_new, .inr ⟨rfl, rfl⟩, rfl⟩, ?_, by simp⟩
    exact (Step.push [] L _).trans (.new [] _ _)
def OP (L : LHeap) (s : Sl) (vs : List Value) (e : TypeId) (F : List Nat) : Prop :=
  (s = ⟨none, 0, 0⟩ ∧ vs = [] ∧ F = []) ∨ ∃ c rest, s = ⟨some ⟨c, 0, none⟩, vs.length, OPEN⟩ ∧ L[c]? = some (.cells (vs ++ rest) e false 1) ∧ F = [c]
theorem OP.nil (L : LHeap) (e : TypeId) : OP L ⟨none, 0, 0⟩ [] e [] := .inl ⟨rfl, rfl, rfl⟩
theorem OP.mono {L L' : LHeap} {s : Sl} {vs : List Value} {e : TypeId} {F : List Nat} (h : OP L s vs e F) (hk : ∀ i ∈ F, L'[i]? = L[i]?) : OP L' s vs e F := by
  rcases h with h | ⟨c, rest, h1, h2, rfl⟩
  · exact .inl h
  · exact .inr ⟨c, rest, h1, by rw [hk c (by simp), h2], rfl⟩
theorem OP.rd {L : LHeap} {s : Sl} {vs : List Value} {e : TypeId} {F : List Nat} (h : OP L s vs e F) : Rd L s vs F := by
  rcases h with ⟨rfl, rfl, rfl⟩ | ⟨c, rest, rfl, h2, rfl⟩
  · exact ⟨rfl, .inl ⟨rfl, rfl⟩⟩
  · exact ⟨rfl, .inr ⟨c, 0, vs ++ rest, e, false, 1, rfl, h2, fun i hi => by rw [Nat.zero_add, List.getElem?_append_left hi], rfl⟩⟩
theorem OP.within {L : LHeap} {s : Sl} {vs : List Value} {e : TypeId} {F : List Nat} (h : OP L s vs e F) : Within F L := h.rd.within
theorem OP.len {L : LHeap} {s : Sl} {vs : List Value} {e : TypeId} {F : List Nat} (h : OP L s vs e F) : s.n = vs.length := h.rd.len
theorem setAll_append (a b news rest : List Value) (h : rest.length = news.length) : setAll (a ++ rest ++ b) a.length news = a ++ news ++ b := by
  induction news generalizing a rest with
  | nil => obtain rfl := List.eq_nil_of_length_eq_zero h; rfl
  | cons x xs ih =>
    cases rest with
    | nil => simp at h
    | cons r rest =>
      simp only [setAll]
      have e : (a ++ r :: rest ++ b).set a.length x = a ++ [x] ++ rest ++ b := by simp [List.set_append_right]
      have := ih (a ++ [x]) rest (by simpa using h)
      simp only [List.length_append, List.length_singleton] at this
      rw [e, this]
      simp
theorem OP.app {L : LHeap} {s : Sl} {vs : List Value} {e : TypeId} {F : List Nat} (h : OP L s vs e F) (news : List Value) (bytes : Nat) (hne : news ≠ [])
    (hb : (vs.length + news.length) * bytes ≤ 2 ^ 47) (hl : vs.length + news.length ≤ 2 ^ 62) :
    ∃ s' L' F', Rlm.app L e 1 bytes s news.length news = some (s', L') ∧ OP L' s' (vs ++ news) e F' ∧ Step F L F' L' := by
  rcases h with h | ⟨c, rest, rfl, h2, rfl⟩
  · have ho : OS L s vs e F := .inl h
    obtain ⟨s', L', F', h1, h2, h3⟩ := ho.app news bytes hb hl
    refine ⟨s', L', F', h1, ?_, h3⟩
    rcases h2 with h2 | ⟨c, g1, g2, g3⟩
    · exact .inl h2
    · exact .inr ⟨c, [], g1, by simpa using g2, g3⟩
  · have hbl := blen_of (o := 0) h2
    simp only [Rlm.app]
    rw [show Nat.blt OPEN OPEN = false by decide, show Nat.beq OPEN OPEN = true from Nat.beq_refl _]
    simp only [cond_true, cond_false, hbl, Nat.sub_zero, List.length_append]
    have hem : news.isEmpty = false := by cases news <;> simp_all
    by_cases hr : news.length ≤ rest.length
    · rw [Nat.ble_eq_true_of_le (by omega), cond_true, hem, cond_false]
      have hsp : rest = rest.take news.length ++ rest.drop news.length := (List.take_append_drop _ _).symm
      refine ⟨⟨some ⟨c, 0, none⟩, vs.length + news.length, OPEN⟩, L.set c (.cells (vs ++ news ++ rest.drop news.length) e false 1), [c], ?_, .inr ⟨c, rest.drop news.length, by simp, by rw [get_set_self h2], rfl⟩, .set _ (by simp)⟩
      rw [mk_add, stores_of h2 (by simp; omega)]
      simp only [Nat.zero_add, Nat.mul_one, Option.bind_eq_bind, Option.bind_some]
      congr 3
      have := setAll_append vs (rest.drop news.length) news (rest.take news.length) (by simp; omega)
      rw [List.append_assoc vs, List.take_append_drop] at this
      rw [this]
    · have hf : Nat.ble (vs.length + news.length) (vs.length + rest.length) = false := by
        cases hc : Nat.ble (vs.length + news.length) (vs.length + rest.length) with
        | false => rfl
        | true => have := Nat.le_of_ble_eq_true hc; omega
      rw [hf, Nat.ble_eq_true_of_le hb, Nat.ble_eq_true_of_le hl]
      refine ⟨⟨some ⟨L.length, 0, none⟩, vs.length + news.length, OPEN⟩, L.set c .dead ++ [.cells (vs ++ news) e false 1], [L.length], ?_, .inr ⟨L.length, [], by simp, by rw [← (List.length_set : (L.set c LBlk.dead).length = L.length), get_new]; simp, rfl⟩, ?_⟩
      · simp [h2, Nat.ble_eq_true_of_le]
      · refine ⟨by simp, fun i hi hn => ?_, fun i hi => by simp at hi; subst hi; exact .inr (Nat.le_refl _)⟩
        rw [get_push (by simpa using hi), get_set_ne (fun e => hn (by simp [e]))]
/-- A slice that is read, and of which it is known enough to cut it. -/
def CS (L : LHeap) (s : Sl) (vs : List Value) (A : List Nat) : Prop :=
  Rd L s vs A ∧ (vs = [] ∨ (s.c < OPEN ∧ s.n ≤ s.c) ∨ (s.c = OPEN ∧ ∃ (c o : Nat) (cs : List Value) (e : TypeId) (ro : Bool), s.a = some ⟨c, o, none⟩ ∧ L[c]? = some (.cells cs e ro 1) ∧ o + s.n ≤ cs.length ∧ A = [c]))
theorem CS.rd {L : LHeap} {s : Sl} {vs : List Value} {A : List Nat} (h : CS L s vs A) : Rd L s vs A := h.1
theorem CS.mono {L L' : LHeap} {s : Sl} {vs : List Value} {A : List Nat} (h : CS L s vs A) (hk : ∀ i ∈ A, L'[i]? = L[i]?) : CS L' s vs A := by
  refine ⟨h.1.mono hk, ?_⟩
  rcases h.2 with h | h | ⟨h1, c, o, cs, e, ro, h2, h3, h4, rfl⟩
  · exact .inl h
  · exact .inr (.inl h)
  · exact .inr (.inr ⟨h1, c, o, cs, e, ro, h2, by rw [hk c (by simp), h3], h4, rfl⟩)
theorem WS.cs {L : LHeap} {s : Sl} {vs : List Value} {e : TypeId} {F : List Nat} (h : WS L s vs e F) (hs : vs.length < OPEN) : CS L s vs F := by
  refine ⟨h.rd, ?_⟩
  rcases h with ⟨rfl, rfl, rfl⟩ | ⟨c, cap, sp, rfl, h2, hc, rfl⟩
  · exact .inl rfl
  · rcases hc with rfl | ⟨rfl, rfl⟩
    · exact .inr (.inl ⟨hs, Nat.le_refl _⟩)
    · exact .inr (.inr ⟨rfl, c, 0, vs, e, false, rfl, h2, by simp, rfl⟩)
theorem Rd.drop {L : LHeap} {c o n cap cap' : Nat} {vs : List Value} {A : List Nat} (h : Rd L ⟨some ⟨c, o, none⟩, vs.length, cap⟩ vs A) (hn : n ≤ vs.length) :
    ∃ A', Rd L ⟨some ⟨c, o + n, none⟩, vs.length - n, cap'⟩ (vs.drop n) A' ∧ (∀ i ∈ A', i ∈ A) ∧ (n < vs.length → A' = A) := by
  obtain ⟨h1, ⟨rfl, rfl⟩ | ⟨c', o', cs, e, ro, sp, h2, h3, h4, rfl⟩⟩ := h
  · exact ⟨[], ⟨by simp, .inl ⟨by simp, rfl⟩⟩, (fun i hi => by cases hi), (fun h => by simp at h)⟩
  · simp only [Option.some.injEq, Addr.mk.injEq, and_true] at h2
    obtain ⟨rfl, rfl⟩ := h2
    refine ⟨[c], ⟨by simp, .inr ⟨c, o + n, cs, e, ro, sp, rfl, h3, fun i hi => ?_, rfl⟩⟩, fun i hi => hi, fun _ => rfl⟩
    simp at hi
    rw [List.getElem?_drop, Nat.add_assoc]
    exact h4 (n + i) (by omega)
theorem bound_at {i y : Nat} (d : Nat) (h : i ≤ y) : bound (some (i : Int)) d y = some i := by
  simp only [bound]
  rw [decide_eq_true (by omega), decide_eq_true (by omega)]
  simp
theorem bound_out {d y : Nat} (h : d ≤ y) : bound none d y = some d := by
  simp only [bound, Nat.ble_eq_true_of_le h, cond_true]
theorem CS.cut {L : LHeap} {s : Sl} {vs : List Value} {A : List Nat} (h : CS L s vs A) {n : Nat} (h0 : 0 < n) (hn : n ≤ vs.length) :
    ∃ s' A', Rlm.cut L s (some (n : Int)) none none 1 = some s' ∧ CS L s' (vs.drop n) A' ∧ ∀ i ∈ A', i ∈ A := by
  obtain ⟨hr, hc⟩ := h
  have hlen := hr.len
  obtain ⟨sa, sn, sc⟩ := s
  simp only at hlen hc
  subst hlen
  obtain ⟨c, o, hsa⟩ : ∃ c o, sa = some ⟨c, o, none⟩ := by
    obtain ⟨_, ⟨rfl, _⟩ | ⟨c, o, cs, e, ro, sp, h2, _⟩⟩ := hr
    · simp at hn; omega
    · exact ⟨c, o, h2⟩
  subst hsa
  have hne : vs ≠ [] := fun e => by subst e; simp at hn; omega
  rcases hc with hc | ⟨hc1, hc2⟩ | ⟨hc1, c', o', cs, e, ro, h2, h3, h4, rfl⟩
  · exact absurd hc hne
  · have hb : Nat.blt sc OPEN = true := by simpa using hc1
    simp only [Rlm.cut, hb, cond_true, Option.isSome_none, cond_false, bound_out (Nat.le_refl sc), bound_out hc2, bound_at 0 hn, Option.bind_eq_bind, Option.bind_some]
    obtain ⟨A', g1, g2, g3⟩ := hr.drop (cap' := sc - n) hn
    by_cases he : sc = n
    · rw [if_pos he]
      have : vs.drop n = [] := List.drop_of_length_le (by omega)
      exact ⟨_, [], rfl, ⟨⟨by simp, .inl ⟨this, rfl⟩⟩, .inl this⟩, fun i hi => by cases hi⟩
    · rw [if_neg he]
      refine ⟨_, A', rfl, ⟨?_, .inr (.inl ⟨by simp only; omega, by simp only; omega⟩)⟩, g2⟩
      simpa [Option.map, mk_add] using g1
  · subst hc1
    simp only [Option.some.injEq, Addr.mk.injEq, and_true] at h2
    obtain ⟨rfl, rfl⟩ := h2
    have hb : Nat.blt OPEN OPEN = false := rfl
    have hbl : blen L ⟨c, o, none⟩ 1 = some (cs.length - o) := by simp [blen, h3, show Nat.blt 0 1 = true from rfl]
    simp only [Rlm.cut, hb, cond_false, Nat.beq_refl, cond_true, hbl, Option.bind_eq_bind, Option.bind_some, bound_out (show vs.length ≤ cs.length - o by omega), bound_at 0 hn]
    rw [if_neg (by omega)]
    obtain ⟨A', g1, g2, g3⟩ := hr.drop (cap' := OPEN) hn
    by_cases he : n < cs.length - o
    · rw [if_pos he]
      refine ⟨_, A', rfl, ⟨by simpa [mk_add] using g1, ?_⟩, g2⟩
      by_cases hx : n < vs.length
      · refine .inr (.inr ⟨rfl, c, o + n, cs, e, ro, by simp [mk_add], h3, by simp only; omega, g3 hx⟩)
      · exact .inl (List.drop_of_length_le (by omega))
    · rw [if_neg he]
      have : vs.drop n = [] := List.drop_of_length_le (by omega)
      exact ⟨_, [], rfl, ⟨⟨by rw [this]; rfl, .inl ⟨this, rfl⟩⟩, .inl this⟩, fun i hi => by cases hi⟩
end Go.Rlm
end

section
set_option maxRecDepth 100000
set_option linter.unusedVariables false
namespace Go.Proofs.Ytflhogapjmdkaaa.X
open Go Go.Rlm
theorem size5 : Proofs.Try.prog.types[5].size = 1 := by kernel_rfl
theorem bytes5 : Proofs.Try.prog.types[5].bytes = 1 := by kernel_rfl
/-- A writer: at b, of these bits; it owns the blocks F. -/
def BW (L : LHeap) (b : Nat) (bs : List Bool) (F : List Nat) : Prop :=
  ∃ (s : Sl) (vs G : List Nat), L[b]? = some (.cells [.slice s.a s.n s.c, .int .i64 (bs.length : Int)] 88 false 0) ∧ OS L s (vs.map bV) 5 G ∧ Packs vs bs ∧ b ∉ G ∧ F = b :: G
theorem BW.mono {L L' : LHeap} {b : Nat} {bs : List Bool} {F : List Nat} (h : BW L b bs F) (hk : ∀ i ∈ F, L'[i]? = L[i]?) : BW L' b bs F := by
  obtain ⟨s, vs, G, h1, h2, h3, h4, rfl⟩ := h
  exact ⟨s, vs, G, by rw [hk b (by simp), h1], h2.mono fun i hi => hk i (by simp [hi]), h3, h4, rfl⟩
theorem BW.within {L : LHeap} {b : Nat} {bs : List Bool} {F : List Nat} (h : BW L b bs F) : Within F L := by
  obtain ⟨s, vs, G, h1, h2, h3, h4, rfl⟩ := h
  intro i hi
  rcases List.mem_cons.1 hi with rfl | hi
  · exact get_lt h1
  · exact h2.within i hi
theorem BW.new (L : LHeap) : BW (L ++ [.cells [.slice none 0 0, .int .i64 0] 88 false 0]) L.length [] [L.length] :=
  ⟨⟨none, 0, 0⟩, [], [], get_new, OS.nil _ _, Packs.nil, by simp, rfl⟩
/-- A bit is laid into the room that there is. -/
theorem put_tail {L : LHeap} {b : Nat} {s : Sl} {vs G : List Nat} {bs : List Bool} (x : Bool) (h1 : L[b]? = some (.cells [.slice s.a s.n s.c, .int .i64 (bs.length : Int)] 88 false 0))
    (h2 : OS L s (vs.map bV) 5 G) (h3 : PacksR vs bs) (h4 : b ∉ G) (hsm : bs.length < 2 ^ 40) :
    ∃ a L2 L3, idx s (IntKind.wrap .i64 ((s.n : Int) - 1)) 1 = some a ∧ cell L a = some (bV (vs.getD (vs.length - 1) 0)) ∧
      stores L a [bV (vs.getD (vs.length - 1) 0 ||| x.toNat * 2 ^ (7 - bs.length % 8))] = some L2 ∧
      cell L2 ⟨b, 1, none⟩ = some (.int .i64 (bs.length : Int)) ∧ stores L2 ⟨b, 1, none⟩ [.int .i64 (IntKind.wrap .i64 ((bs.length : Int) + 1))] = some L3 ∧
      BW L3 b (bs ++ [x]) (b :: G) ∧ Step (b :: G) L (b :: G) L3 := by
  have hn := h2.len
  have hl := h3.1
  simp only [List.length_map] at hn
  have e : IntKind.wrap .i64 ((s.n : Int) - 1) = ((vs.length - 1 : Nat) : Int) := by rw [wI64] <;> omega
  have hlt : vs.length - 1 < (vs.map bV).length := by simp; omega
  have hv : (vs.map bV)[vs.length - 1]? = some (bV (vs.getD (vs.length - 1) 0)) := by
    rw [List.getElem?_map, List.getD_eq_getElem?_getD, List.getElem?_eq_getElem (by omega)]; rfl
  obtain ⟨a, g1, g2⟩ := h2.get hv
  obtain ⟨a', L2, g3, g4, g5, g6⟩ := h2.put hlt (bV (vs.getD (vs.length - 1) 0 ||| x.toNat * 2 ^ (7 - bs.length % 8)))
  obtain rfl : a = a' := by rw [g1] at g3; exact Option.some.inj g3
  have g7 : L2[b]? = some (.cells [.slice s.a s.n s.c, .int .i64 (bs.length : Int)] 88 false 0) := by rw [g6.keep b (get_lt h1) h4, h1]
  refine ⟨a, L2, _, by rw [e]; exact g1, g2, g4, by rw [cell_of g7]; rfl, stores_of g7 (by simp), ⟨s, vs.set (vs.length - 1) (vs.getD (vs.length - 1) 0 ||| x.toNat * 2 ^ (7 - bs.length % 8)), G, ?_, ?_, h3.put x, h4, rfl⟩, ?_⟩
  · rw [get_set_self g7]
    simp only [setAll, List.length_append, List.length_singleton]
    rw [wI64 (by omega) (by omega)]
    rfl
  · rw [List.map_set]
    exact g5.mono fun i hi => get_set_ne (fun h => h4 (h ▸ hi))
  · exact ((g6.mono (fun i hi => by simp [hi])).less (fun i hi => .inr hi)).trans (Step.set _ (by simp))
theorem ndec {n : Int} (h : 0 ≤ n) : (!decide (n < 0)) = true := by simpa using h
theorem src_new {L : LHeap} {v : Value} {e : TypeId} {ro : Bool} {sp c : Nat} : srcOf (L ++ [.cells [v] e ro sp]) 1 1 (.slice (some ⟨L.length, 0, none⟩) 1 c) = some [v] := by
  simp [srcOf, srcCells, cellsAt]
  rfl
/-- The bit that is laid. -/
theorem put_bit (v m q : Nat) (hv : v < 4294967296) (hm : m < 32) (hq : q < 8) (y : Nat) (hy : y < 256) :
    bitop BinOp.or IntKind.u8 (y : Int) (IntKind.wrap IntKind.u8 (IntKind.wrap IntKind.u8 (bitop BinOp.and IntKind.u32 (Int.fdiv (v : Int) (2 ^ min (Int.toNat ((m : Nat) : Int)) 32)) 1) * 2 ^ min (Int.toNat ((7 - q : Nat) : Int)) 8)) =
      ((y ||| (v.testBit m).toNat * 2 ^ (7 - q) : Nat) : Int) := by
  have b1 : bitop BinOp.and IntKind.u32 (Int.fdiv (v : Int) (2 ^ min (Int.toNat ((m : Nat) : Int)) 32)) 1 = (((v.testBit m).toNat : Nat) : Int) := by
    rw [show min (Int.toNat ((m : Nat) : Int)) 32 = m by simp; omega, fdiv_pow]
    have hlt : v / 2 ^ m < 2 ^ IntKind.u32.bits := Nat.lt_of_le_of_lt (Nat.div_le_self _ _) hv
    have := bitop_and (k := .u32) rfl hlt (b := 1) (by decide)
    rw [show ((1 : Nat) : Int) = 1 from rfl] at this
    rw [this, Nat.and_one_is_mod, Nat.testBit_eq_decide_div_mod_eq]
    rcases Nat.mod_two_eq_zero_or_one (v / 2 ^ m) with h | h <;> simp [h]
  have hx := Bool.toNat_le (v.testBit m)
  have hp : 2 ^ (7 - q) ≤ 2 ^ 7 := Nat.pow_le_pow_right (by omega) (by omega)
  have hpx : (v.testBit m).toNat * 2 ^ (7 - q) < 256 := by
    have : (v.testBit m).toNat * 2 ^ (7 - q) ≤ 1 * 2 ^ 7 := Nat.mul_le_mul (by omega) (by omega)
    omega
  rw [b1, wU8 (n := (((v.testBit m).toNat : Nat) : Int)) (by omega) (by omega), show min (Int.toNat ((7 - q : Nat) : Int)) 8 = 7 - q by simp; omega]
  have e : (((v.testBit m).toNat : Nat) : Int) * 2 ^ (7 - q) = (((v.testBit m).toNat * 2 ^ (7 - q) : Nat) : Int) := by push_cast; rfl
  rw [e, wU8 (by omega) (by omega)]
  exact bitop_or (k := .u8) rfl (by simpa [IntKind.bits] using hy) (by simpa [IntKind.bits] using hpx)
theorem put_loop {k v n b : Nat} (hv : v < 4294967296) (hn : n ≤ 32) : ∀ (m i j : Nat) (bs : List Bool) (F : List Nat) (L : LHeap), i + m = n → m < j → BW L b bs F → bs.length + m < 2 ^ 40 →
    ∃ L' F', f57_l6 k j (some ⟨b, 0, none⟩) v n n i L = some (.ret (.int .i64 0) L') ∧ BW L' b (bs ++ bitsOf v m) F' ∧ Step F L F' L' := by
  intro m
  induction m with
  | zero =>
    intro i j bs F L him hj h hsm
    obtain ⟨j, rfl⟩ : ∃ j', j = j' + 1 := ⟨j - 1, by omega⟩
    refine ⟨L, F, ?_, by simpa using h, .refl _ _⟩
    rw [f57_l6_eq, decide_eq_false (by omega)]
    rfl
  | succ m ih =>
    intro i j bs F L him hj h hsm
    obtain ⟨j, rfl⟩ : ∃ j', j = j' + 1 := ⟨j - 1, by omega⟩
    obtain ⟨s, vs, G, h1, h2, h3, h4, rfl⟩ := h
    have e1 : IntKind.wrap .i64 (IntKind.wrap .i64 ((n : Int) - 1) - (i : Int)) = ((m : Nat) : Int) := by rw [wI64, wI64] <;> (try rw [wI64]) <;> omega
    have e2 : IntKind.wrap .i64 ((i : Int) + 1) = ((i + 1 : Nat) : Int) := by rw [wI64] <;> omega
    have e3 : IntKind.wrap .i64 (7 - Int.tmod (bs.length : Int) 8) = ((7 - bs.length % 8 : Nat) : Int) := by
      have := tmod_nat bs.length 8
      rw [show ((8 : Nat) : Int) = 8 from rfl] at this
      rw [this, wI64] <;> omega
    have e4 : Int.tmod (bs.length : Int) 8 = ((bs.length % 8 : Nat) : Int) := tmod_nat bs.length 8
    have c0 : cell L ⟨b, 0, none⟩ = some (.slice s.a s.n s.c) := by rw [cell_of h1]; rfl
    have c1 : cell L ⟨b, 1, none⟩ = some (.int .i64 (bs.length : Int)) := by rw [cell_of h1]; rfl
    rw [f57_l6_eq, decide_eq_true (by omega)]
    simp only [lif_true, obind_some, mk_add, Nat.zero_add, c1, c0, Option.bind_some, asI_int, asSl_slice, e1, e2, e3, size5, bytes5, src_new]
    by_cases h8 : bs.length % 8 = 0
    · rw [show (Int.tmod (bs.length : Int) 8 == 0) = true by rw [e4, h8]; rfl]
      obtain ⟨s', L', G', a1, a2, a3⟩ := (h2.mono (L' := L ++ [.cells [.int .u8 0] 5 false 0]) fun i hi => get_push (h2.within i hi)).app [bV 0] 1 (by simp; have := h3.1; omega) (by simp; have := h3.1; omega)
      have a1 : app (L ++ [.cells [.int .u8 0] 5 false 0]) 5 1 1 s 1 [.int .u8 0] = some (s', L') := a1
      have hb' : L'[b]? = some (.cells [.slice s.a s.n s.c, .int .i64 (bs.length : Int)] 88 false 0) := by rw [a3.keep b (by have := get_lt h1; simp; omega) h4, get_push (get_lt h1), h1]
      have a4 : b ∉ G' := fun hg => by rcases a3.foot b hg with q | q; exact h4 q; have := get_lt h1; simp at q; omega
      simp only [lif_true, a1, obind_some]
      rw [stores_of hb' (by simp)]
      have hb2 : (L'.set b (.cells (setAll [.slice s.a s.n s.c, .int .i64 (bs.length : Int)] 0 [.slice s'.a s'.n s'.c]) 88 false 0))[b]? = some (.cells [.slice s'.a s'.n s'.c, .int .i64 (bs.length : Int)] 88 false 0) := by
        rw [get_set_self hb']; rfl
      have st : Step (b :: G) L (b :: G') (L'.set b (.cells (setAll [.slice s.a s.n s.c, .int .i64 (bs.length : Int)] 0 [.slice s'.a s'.n s'.c]) 88 false 0)) :=
        ((Step.push (b :: G) L _).trans (((a3.mono (G := b :: G) fun i hi => by simp [hi]).less (G := b :: G') fun i hi => by rcases List.mem_cons.1 hi with rfl | hi; exact .inr (by simp); exact .inl hi))).trans (Step.set _ (by simp))
      generalize hL2 : L'.set b (.cells (setAll [.slice s.a s.n s.c, .int .i64 (bs.length : Int)] 0 [.slice s'.a s'.n s'.c]) 88 false 0) = L1 at *
      have a2' : OS L1 s' ((vs ++ [0]).map bV) 5 G' := by
        rw [List.map_append]
        exact a2.mono fun i' hi => by rw [← hL2, get_set_ne (b := b) (c := i') (fun e => a4 (e ▸ hi))]
      obtain ⟨a, L2, L3, t1, t2, t3, t4, t5, t6, t7⟩ := put_tail (v.testBit m) hb2 a2' (h3.room0 h8) a4 (by omega)
      have hy : (vs ++ [0]).getD ((vs ++ [0]).length - 1) 0 < 256 := ((h3.room0 h8).2 _ (by simp)).1
      have c0 : cell L1 ⟨b, 0, none⟩ = some (.slice s'.a s'.n s'.c) := by rw [cell_of hb2]; rfl
      have c1 : cell L1 ⟨b, 1, none⟩ = some (.int .i64 (bs.length : Int)) := by rw [cell_of hb2]; rfl
      simp only [bV] at t2 t3
      rw [← put_bit v m (bs.length % 8) hv (by omega) (by omega) _ hy] at t3
      obtain ⟨L4, F4, r1, r2, r3⟩ := ih (i + 1) j (bs ++ [v.testBit m]) _ L3 (by omega) (by omega) t6 (by simp; omega)
      refine ⟨L4, F4, ?_, by rw [bitsOf_succ]; simpa using r2, (st.trans t7).trans r3⟩
      simp only [obind_some, ndec (Int.natCast_nonneg _), when_true, c0, c1, asSl_slice, asI_int, Option.bind_some, t1, t2, e3, t3, t4, t5]
      exact r1
    · rw [show (Int.tmod (bs.length : Int) 8 == 0) = false by rw [e4]; simp; omega]
      simp only [lif_false]
      obtain ⟨a, L2, L3, t1, t2, t3, t4, t5, t6, t7⟩ := put_tail (v.testBit m) h1 h2 (h3.room h8) h4 (by omega)
      have hy : vs.getD (vs.length - 1) 0 < 256 := ((h3.room h8).2 _ (by have := (h3.room h8).1; omega)).1
      simp only [bV] at t2 t3
      rw [← put_bit v m (bs.length % 8) hv (by omega) (by omega) _ hy] at t3
      obtain ⟨L4, F4, r1, r2, r3⟩ := ih (i + 1) j (bs ++ [v.testBit m]) _ L3 (by omega) (by omega) t6 (by simp; omega)
      refine ⟨L4, F4, ?_, by rw [bitsOf_succ]; simpa using r2, t7.trans r3⟩
      simp only [obind_some, ndec (Int.natCast_nonneg _), when_true, t1, t2, e3, t3, t4, t5, asI_int, asSl_slice, Option.bind_some]
      exact r1
def putOk (v : Nat) (n : Int) : Bool := decide (0 ≤ n) && decide (n ≤ 32) && decide (v < 2 ^ n.toNat)
def putRes (v : Nat) (n : Int) : Int := if putOk v n then 0 else 1
def putBits (v : Nat) (n : Int) : List Bool := if putOk v n then bitsOf v n.toNat else []
theorem put_ok {k b v : Nat} {n : Int} {L : LHeap} {bs : List Bool} {F : List Nat} (h : BW L b bs F) (hv : v < 4294967296) (hs : bs.length < 2 ^ 39) (hk : 40 ≤ k) :
    ∃ L' F', f57 k (some ⟨b, 0, none⟩) v n L = some (.ret (.int .i64 (putRes v n)) L') ∧ BW L' b (bs ++ putBits v n) F' ∧ Step F L F' L' := by
  obtain ⟨k, rfl⟩ : ∃ k', k = k' + 1 := ⟨k - 1, by omega⟩
  rw [f57_eq]
  simp only [Option.isNone_some, lif_false]
  by_cases h0 : n < 0
  · refine ⟨L, F, ?_, ?_, .refl _ _⟩
    · simp [h0, putRes, putOk]; omega
    · simpa [putBits, putOk, show ¬ 0 ≤ n by omega] using h
  by_cases h1 : n > 32
  · refine ⟨L, F, ?_, ?_, .refl _ _⟩
    · simp [h0, h1, putRes, putOk, show ¬ n ≤ 32 by omega]
    · simpa [putBits, putOk, show ¬ n ≤ 32 by omega] using h
  obtain ⟨m, rfl⟩ : ∃ m : Nat, n = m := ⟨n.toNat, by omega⟩
  rw [decide_eq_false h0, decide_eq_false h1]
  simp only [lif_false, Bool.not_false, when_true]
  rw [wU64 (by omega) (by omega), show min (Int.toNat (m : Int)) 64 = m by simp; omega, fdiv_pow]
  by_cases h2 : v < 2 ^ m
  · have ok : putOk v (m : Int) = true := by simp [putOk, h2]; omega
    rw [Nat.div_eq_of_lt h2]
    obtain ⟨L', F', r1, r2, r3⟩ := put_loop hv (show m ≤ 32 by omega) m 0 k bs F L (by omega) (by omega) h (by omega)
    refine ⟨L', F', ?_, by simpa [putBits, ok] using r2, r3⟩
    rw [putRes, if_pos ok]
    simpa using r1
  · have ok : putOk v (m : Int) = false := by simp [putOk, h2]
    refine ⟨L, F, ?_, by simpa [putBits, ok] using h, .refl _ _⟩
    have : v / 2 ^ m ≠ 0 := by
      intro h; rcases Nat.div_eq_zero_iff.1 h with h | h
      · have := Nat.two_pow_pos m; omega
      · exact h2 h
    rw [show (((v / 2 ^ m : Nat) : Int) != 0) = true by simp only [bne_iff_ne, ne_eq]; omega]
    simp [putRes, ok]
theorem bytes_ok {k b : Nat} {L : LHeap} {bs : List Bool} {F : List Nat} (h : BW L b bs F) (hk : 1 ≤ k) : ∃ vs, Packs vs bs ∧ f58 k (some ⟨b, 0, none⟩) L = some (.ret (.string (strOf vs)) L) := by
  obtain ⟨k, rfl⟩ : ∃ k', k = k' + 1 := ⟨k - 1, by omega⟩
  obtain ⟨s, vs, G, h1, h2, h3, h4, rfl⟩ := h
  have c0 : cell L ⟨b, 0, none⟩ = some (.slice s.a s.n s.c) := by rw [cell_of h1]; rfl
  refine ⟨vs, h3, ?_⟩
  rw [f58_eq]
  simp [c0, h2.bytes h3.small]
def bb (x : Bool) : Value := bV x.toNat
def RW (L : LHeap) (b : Nat) (bs : List Bool) (F : List Nat) : Prop :=
  ∃ (s : Sl) (G : List Nat), L[b]? = some (.cells [.slice s.a s.n s.c] 29 false 0) ∧ OS L s (bs.map bb) 5 G ∧ b ∉ G ∧ F = b :: G
theorem RW.mono {L L' : LHeap} {b : Nat} {bs : List Bool} {F : List Nat} (h : RW L b bs F) (hk : ∀ i ∈ F, L'[i]? = L[i]?) : RW L' b bs F := by
  obtain ⟨s, G, h1, h2, h4, rfl⟩ := h
  exact ⟨s, G, by rw [hk b (by simp), h1], h2.mono fun i hi => hk i (by simp [hi]), h4, rfl⟩
theorem RW.within {L : LHeap} {b : Nat} {bs : List Bool} {F : List Nat} (h : RW L b bs F) : Within F L := by
  obtain ⟨s, G, h1, h2, h4, rfl⟩ := h
  intro i hi
  rcases List.mem_cons.1 hi with rfl | hi
  · exact get_lt h1
  · exact h2.within i hi
theorem RW.new (L : LHeap) : RW (L ++ [.cells [.slice none 0 0] 29 false 0]) L.length [] [L.length] :=
  ⟨⟨none, 0, 0⟩, [], get_new, OS.nil _ _, by simp, rfl⟩
/-- The bits of a byte, az far az they are. -/
def byteBits (bs : List Bool) (q t : Nat) : List Bool := (List.range t).map fun k => bs.getD (8 * q + k) false
@[simp] theorem byteBits_length (bs : List Bool) (q t : Nat) : (byteBits bs q t).length = t := by simp [byteBits]
end Go.Proofs.Ytflhogapjmdkaaa.X
end

section
set_option maxRecDepth 100000
set_option linter.unusedVariables false
namespace Go.Proofs.Ytflhogapjmdkaaa.X
open Go Go.Rlm
def takeErr (r : List Bool) (n : Int) : Int := if n < 0 ∨ n > 32 then 1 else if n > r.length then 4 else 0
def takeCnt (r : List Bool) (n : Int) : Nat := if n < 0 ∨ n > 32 then 0 else if n > r.length then 0 else n.toNat
def takeVal (r : List Bool) (n : Int) : Nat := bitNum (r.take (takeCnt r n))
def taken (r : List Bool) (n : Int) : Value := .tuple #[.int .u32 (takeVal r n), .int .i64 (takeErr r n)]
/-- A reader: at b, of the bits that are left. -/
def BR (L : LHeap) (b : Nat) (r : List Bool) : Prop :=
  ∃ (s : ByteArray) (g : Nat), L[b]? = some (.cells [.string s, .int .i64 (g : Int)] 100 false 0) ∧ g ≤ 8 * s.size ∧ s.size < 2 ^ 40 ∧ r = (unpack s).drop g
theorem BR.mono {L L' : LHeap} {b : Nat} {r : List Bool} (h : BR L b r) (hk : L'[b]? = L[b]?) : BR L' b r := by
  obtain ⟨s, g, h1, h2, h3, h4⟩ := h
  exact ⟨s, g, by rw [hk, h1], h2, h3, h4⟩
/-- A row that is read and cut. -/
def RS (L : LHeap) (s : Sl) (vs : List Value) (F : List Nat) : Prop :=
  (s = ⟨none, 0, 0⟩ ∧ vs = [] ∧ F = []) ∨ (∃ a, s = ⟨some a, 0, LOOSE⟩ ∧ vs = [] ∧ F = []) ∨
    ∃ (c o : Nat) (cs : List Value), s = ⟨some ⟨c, o, none⟩, vs.length, OPEN⟩ ∧ L[c]? = some (.cells cs 5 false 1) ∧ vs = cs.drop o ∧ F = [c]
theorem RS.mono {L L' : LHeap} {s : Sl} {vs : List Value} {F : List Nat} (h : RS L s vs F) (hk : ∀ i ∈ F, L'[i]? = L[i]?) : RS L' s vs F := by
  rcases h with h | h | ⟨c, o, cs, h1, h2, h3, rfl⟩
  · exact .inl h
  · exact .inr (.inl h)
  · exact .inr (.inr ⟨c, o, cs, h1, by rw [hk c (by simp), h2], h3, rfl⟩)
theorem RS.within {L : LHeap} {s : Sl} {vs : List Value} {F : List Nat} (h : RS L s vs F) : Within F L := by
  rcases h with ⟨_, _, rfl⟩ | ⟨_, _, _, rfl⟩ | ⟨c, o, cs, h1, h2, h3, rfl⟩
  · intro i hi; simp at hi
  · intro i hi; simp at hi
  · intro i hi; simp at hi; subst hi; exact get_lt h2
theorem RS.len {L : LHeap} {s : Sl} {vs : List Value} {F : List Nat} (h : RS L s vs F) : s.n = vs.length := by
  rcases h with ⟨rfl, rfl, _⟩ | ⟨_, rfl, rfl, _⟩ | ⟨c, o, cs, rfl, h2, h3, rfl⟩ <;> rfl
theorem OS.rs {L : LHeap} {s : Sl} {vs : List Value} {F : List Nat} (h : OS L s vs 5 F) : RS L s vs F := by
  rcases h with h | ⟨c, h1, h2, h3⟩
  · exact .inl h
  · exact .inr (.inr ⟨c, 0, vs, h1, h2, rfl, h3⟩)
theorem RS.get {L : LHeap} {s : Sl} {vs : List Value} {F : List Nat} (h : RS L s vs F) {i : Nat} {v : Value} (hv : vs[i]? = some v) :
    ∃ a, idx s (i : Int) 1 = some a ∧ cell L a = some v := by
  rcases h with ⟨rfl, rfl, _⟩ | ⟨_, rfl, rfl, _⟩ | ⟨c, o, cs, rfl, h2, h3, rfl⟩
  · simp at hv
  · simp at hv
  · refine ⟨⟨c, o + i * 1, none⟩, idx_of (get_lt hv), ?_⟩
    rw [cell_of h2, ← hv, h3, List.getElem?_drop, Nat.mul_one]
theorem RS.cut {L : LHeap} {s : Sl} {vs : List Value} {F : List Nat} (h : RS L s vs F) {n : Nat} (hn : n ≤ vs.length) :
    ∃ s' F', Rlm.cut L s (some (n : Int)) none none 1 = some s' ∧ RS L s' (vs.drop n) F' ∧ ∀ i ∈ F', i ∈ F := by
  rcases h with ⟨rfl, rfl, rfl⟩ | ⟨a, rfl, rfl, rfl⟩ | ⟨c, o, cs, rfl, h2, h3, rfl⟩
  · obtain rfl : n = 0 := by simpa using hn
    exact ⟨⟨none, 0, 0⟩, [], rfl, .inl ⟨rfl, rfl, rfl⟩, fun i hi => hi⟩
  · obtain rfl : n = 0 := by simpa using hn
    refine ⟨⟨some a, 0, LOOSE⟩, [], ?_, .inr (.inl ⟨a, rfl, rfl, rfl⟩), fun i hi => hi⟩
    simp only [Rlm.cut]
    rw [show Nat.blt LOOSE OPEN = false by decide, show Nat.beq LOOSE OPEN = false by decide, show Nat.beq LOOSE LOOSE = true from Nat.beq_refl _]
    rfl
  · have hl : vs.length = cs.length - o := by rw [h3]; simp
    simp only [Rlm.cut]
    rw [show Nat.blt OPEN OPEN = false by decide, show Nat.beq OPEN OPEN = true from Nat.beq_refl _]
    simp only [cond_true, cond_false, blen_of (o := o) h2, Option.bind_eq_bind, Option.bind_some, bound]
    rw [Nat.ble_eq_true_of_le (show vs.length ≤ cs.length - o by omega)]
    simp only [cond_true, Option.bind_some]
    rw [show (decide (0 ≤ (n : Int)) && decide ((n : Int) ≤ (vs.length : Int))) = true by simpa using hn]
    simp only [cond_true, Option.bind_some, Int.toNat_natCast]
    by_cases h0 : n = 0
    · subst h0
      exact ⟨_, [c], rfl, .inr (.inr ⟨c, o, cs, by simp, h2, by simpa using h3, rfl⟩), fun i hi => hi⟩
    · rw [if_neg h0]
      by_cases h1 : n < cs.length - o
      · rw [if_pos h1]
        exact ⟨_, [c], rfl, .inr (.inr ⟨c, o + n, cs, by simp, h2, by rw [h3, List.drop_drop], rfl⟩), fun i hi => hi⟩
      · rw [if_neg h1]
        exact ⟨_, [], rfl, .inr (.inl ⟨_, rfl, List.drop_eq_nil_of_le (by omega), rfl⟩), fun i hi => by simp at hi⟩
def RR (L : LHeap) (b : Nat) (r : List Bool) (F : List Nat) : Prop :=
  ∃ (s : Sl) (G : List Nat), L[b]? = some (.cells [.slice s.a s.n s.c] 77 false 0) ∧ RS L s (r.map bb) G ∧ b ∉ G ∧ F = b :: G
theorem RR.mono {L L' : LHeap} {b : Nat} {bs : List Bool} {F : List Nat} (h : RR L b bs F) (hk : ∀ i ∈ F, L'[i]? = L[i]?) : RR L' b bs F := by
  obtain ⟨s, G, h1, h2, h4, rfl⟩ := h
  exact ⟨s, G, by rw [hk b (by simp), h1], h2.mono fun i hi => hk i (by simp [hi]), h4, rfl⟩
theorem RR.within {L : LHeap} {b : Nat} {bs : List Bool} {F : List Nat} (h : RR L b bs F) : Within F L := by
  obtain ⟨s, G, h1, h2, h4, rfl⟩ := h
  intro i hi
  rcases List.mem_cons.1 hi with rfl | hi
  · exact get_lt h1
  · exact h2.within i hi
end Go.Proofs.Ytflhogapjmdkaaa.X
end

section
set_option maxRecDepth 100000
set_option linter.unusedVariables false
namespace Go.Proofs.Ytflhogapjmdkaaa.X
open Go Go.Rlm
theorem none_apart (H : List Nat) : Apart [] H := fun i hi => by simp at hi
theorem one_apart {b : Nat} {H : List Nat} (h : b ∉ H) : Apart [b] H := fun i hi => by simp at hi; subst hi; exact h
end Go.Proofs.Ytflhogapjmdkaaa.X
end

section
set_option maxRecDepth 100000
set_option linter.unusedVariables false
namespace Go.Proofs.Ytflhogapjmdkaaa.X
open Go Go.Rlm
theorem cellsAt_all {L : LHeap} {b n : Nat} {cs : List Value} {e : TypeId} {ro : Bool} {sp : Nat} (h : L[b]? = some (.cells cs e ro sp)) (hn : cs.length = n) : cellsAt L ⟨b, 0, none⟩ n = some cs := by
  simp only [cellsAt, h, Nat.zero_add]
  rw [Nat.ble_eq_true_of_le (by omega), cond_true, List.drop_zero, List.take_of_length_le (by omega)]
theorem stores_all {L : LHeap} {b : Nat} {cs news : List Value} {e : TypeId} {sp : Nat} (h : L[b]? = some (.cells cs e false sp)) (hn : news.length = cs.length) : stores L ⟨b, 0, none⟩ news = some (L.set b (.cells news e false sp)) := by
  rw [stores_of h (by omega)]
  have := setAll_append [] [] news cs hn.symm
  simp only [List.nil_append, List.append_nil, List.length_nil] at this
  rw [this]
theorem set_same {L : LHeap} {b : Nat} {x : LBlk} (h : L[b]? = some x) : L.set b x = L := by
  apply List.ext_getElem?
  intro i
  by_cases hi : b = i
  · subst hi; rw [get_set_self h, h]
  · rw [get_set_ne hi]
def cntCells (zs : List Int) : List Value := (List.range 16).map fun n => iV (cnt zs n)
@[simp] theorem cntCells_length (zs : List Int) : (cntCells zs).length = 16 := by simp [cntCells]
theorem cntCells_get (zs : List Int) {n : Nat} (h : n < 16) : (cntCells zs)[n]? = some (iV (cnt zs n)) := by simp [cntCells, h]
theorem cntCells_set (zs : List Int) {z : Int} (h0 : 0 ≤ z) (h : z ≤ 15) : (cntCells zs).set z.toNat (iV ((cnt zs z.toNat : Int) + 1)) = cntCells (zs ++ [z]) := by
  apply List.ext_getElem?
  intro i
  by_cases hi : i < 16
  · rw [cntCells_get _ hi, cnt_snoc]
    by_cases hz : z.toNat = i
    · subst hz
      rw [List.getElem?_set_self (by simp; omega), if_pos (by omega)]
      simp [iV]
    · rw [List.getElem?_set_ne hz, cntCells_get _ hi, if_neg (by omega)]
      rfl
  · rw [List.getElem?_eq_none (by simp; omega), List.getElem?_eq_none (by simp; omega)]
theorem okLen_false {zs : List Int} {z : Int} (hz : z ∈ zs) (h : ¬ (0 ≤ z ∧ z ≤ 15)) : okLen zs = false := by
  cases hk : okLen zs with
  | false => rfl
  | true => exact absurd (okLen_mem hk hz) h
theorem count_loop {k r : Nat} {l : Sl} {zs : List Int} {A : List Nat} (hs : zs.length < 2 ^ 60) (hrA : r ∉ A) (hn : l.n = zs.length) :
    ∀ (m i j : Nat) (L : LHeap), i + m = zs.length → m < j → L[r]? = some (.cells (cntCells (zs.take i)) 137 false 0) → (∀ z ∈ zs.take i, 0 ≤ z ∧ z ≤ 15) → Rd L l (zs.map iV) A →
      ∃ L' cs, f81_l2 k j r l (l.n : Int) i L = some (.ret (.tuple #[.agg (List.toArray cs), .bool (okLen zs)]) L') ∧ cs.length = 16 ∧ (okLen zs = true → cs = cntCells zs) ∧ Step [r] L [] L' := by
  intro m
  induction m with
  | zero =>
    intro i j L hi hj hL hok hl
    obtain ⟨j, rfl⟩ : ∃ j', j = j' + 1 := ⟨j - 1, by omega⟩
    rw [List.take_of_length_le (by omega)] at hL hok
    have hz : okLen zs = true := by
      simp only [okLen, List.all_eq_true]
      intro z hz
      have := hok z hz
      simpa using this
    refine ⟨L, cntCells zs, ?_, by simp, fun _ => rfl, (Step.refl [r] L).less fun i hi => .inr (by simp at hi)⟩
    rw [f81_l2_eq, decide_eq_false (by omega)]
    simp only [lif_false, cellsAt_all hL (cntCells_length zs), obind_some, cntCells_length, Nat.beq_refl, when_true, stores_all hL rfl]
    rw [set_same hL]
    simp only [cellsAt_all hL (cntCells_length zs), obind_some, hz]
  | succ m ih =>
    intro i j L hi hj hL hok hl
    obtain ⟨j, rfl⟩ : ∃ j', j = j' + 1 := ⟨j - 1, by omega⟩
    have hiz : i < zs.length := by omega
    obtain ⟨a, a1, a2⟩ := hl.here (i := i) (v := iV zs[i]) (by simp [hiz])
    have fail : ¬ (0 ≤ zs[i] ∧ zs[i] ≤ 15) → okLen zs = false := okLen_false (List.getElem_mem hiz)
    rw [f81_l2_eq, decide_eq_true (by omega)]
    simp only [lif_true, a1, a2, iV, obind_some, Option.bind_some, asI_int]
    by_cases h0 : zs[i] < 0
    · refine ⟨L, cntCells (zs.take i), ?_, by simp, fun h => (by rw [fail (by omega)] at h; cases h), (Step.refl [r] L).less fun i hi => .inr (by simp at hi)⟩
      rw [decide_eq_true h0, fail (by omega)]
      simp only [lif_true, cellsAt_all hL (cntCells_length _), obind_some, cntCells_length, Nat.beq_refl, when_true, stores_all hL rfl]
      rw [set_same hL]
      simp only [cellsAt_all hL (cntCells_length _), obind_some]
    by_cases h1 : zs[i] > 15
    · refine ⟨L, cntCells (zs.take i), ?_, by simp, fun h => (by rw [fail (by omega)] at h; cases h), (Step.refl [r] L).less fun i hi => .inr (by simp at hi)⟩
      rw [decide_eq_false h0, decide_eq_true h1, fail (by omega)]
      simp only [lif_true, lif_false, cellsAt_all hL (cntCells_length _), obind_some, cntCells_length, Nat.beq_refl, when_true, stores_all hL rfl]
      rw [set_same hL]
      simp only [cellsAt_all hL (cntCells_length _), obind_some]
    have hn1 : zs[i].toNat < 16 := by omega
    have hcl := cnt_le (zs.take i) zs[i].toNat
    simp only [List.length_take] at hcl
    have c0 : cell L ⟨r, 0 + zs[i].toNat * 1, none⟩ = some (.int .i64 (cnt (zs.take i) zs[i].toNat : Int)) := by
      rw [cell_of hL, Nat.zero_add, Nat.mul_one, cntCells_get _ hn1]; rfl
    rw [decide_eq_false h0, decide_eq_false h1, decide_eq_true (show 0 ≤ zs[i] by omega), decide_eq_true (show zs[i] < 16 by omega)]
    simp only [lif_false, when_true, mk_add, c0, Option.bind_some, asI_int, obind_some]
    rw [wI64 (n := (cnt (zs.take i) zs[i].toNat : Int) + 1) (by omega) (by omega), wI64 (n := (i : Int) + 1) (by omega) (by omega), stores_of hL (by simp; omega)]
    have hset : setAll (cntCells (zs.take i)) (0 + zs[i].toNat * 1) [Value.int .i64 ((cnt (zs.take i) zs[i].toNat : Int) + 1)] = cntCells (zs.take (i + 1)) := by
      rw [take_succ_int hiz, ← cntCells_set _ (by omega) (by omega), Nat.zero_add, Nat.mul_one]; rfl
    rw [hset]
    obtain ⟨L', cs, r1, r2, r3, r4⟩ := ih (i + 1) j (L.set r (.cells (cntCells (zs.take (i + 1))) 137 false 0)) (by omega) (by omega) (get_set_self hL)
      (fun z hz => by rw [take_succ_int hiz] at hz; rcases List.mem_append.1 hz with hz | hz; exact hok z hz; simp at hz; subst hz; omega)
      (hl.mono fun x hx => get_set_ne (fun e => hrA (e ▸ hx)))
    exact ⟨L', cs, r1, r2, r3, (Step.set _ (by simp)).trans r4⟩
theorem count_ok {k : Nat} {l : Sl} {zs : List Int} {A : List Nat} {L : LHeap} (hl : Rd L l (zs.map iV) A) (hs : zs.length < 2 ^ 60) (hk : zs.length + 5 ≤ k) :
    ∃ L' cs, f81 k l L = some (.ret (.tuple #[.agg (List.toArray cs), .bool (okLen zs)]) L') ∧ cs.length = 16 ∧ (okLen zs = true → cs = cntCells zs) ∧ Step [] L [] L' := by
  obtain ⟨k, rfl⟩ : ∃ k', k = k' + 1 := ⟨k - 1, by omega⟩
  have hn := hl.len
  simp only [List.length_map] at hn
  rw [f81_eq]
  generalize hX : LBlk.cells _ 137 false 0 = X
  have hX' : X = .cells (cntCells ([].take 0)) 137 false 0 := by rw [← hX]; rfl
  obtain ⟨L', cs, r1, r2, r3, r4⟩ := count_loop (k := k) (r := L.length) hs (fun h => by have := hl.within _ h; omega) hn zs.length 0 k (L ++ [X]) (by omega) (by omega) (by rw [get_new, hX']; rfl) (fun z hz => by simp at hz) (hl.mono fun x hx => get_push (hl.within x hx))
  exact ⟨L', cs, r1, r2, r3, (Step.new [] L X).trans r4⟩
theorem may_loop {k r : Nat} {zs : List Int} {L : LHeap} (hok : okLen zs = true) (h512 : zs.length ≤ 512) (hL : L[r]? = some (.cells (cntCells zs) 137 false 0)) :
    ∀ (m n j : Nat), n + m = 15 → m < j → f98_l6 k j r (fillTo zs n : Int) (usedTo zs n : Int) ((n + 1 : Nat) : Int) L = some (.ret (.bool (may zs)) L) := by
  intro m
  induction m with
  | zero =>
    intro n j hn hj
    obtain ⟨j, rfl⟩ : ∃ j', j = j' + 1 := ⟨j - 1, by omega⟩
    obtain rfl : n = 15 := by omega
    rw [f98_l6_eq, decide_eq_false (by omega)]
    simp only [lif_false, may, hok, decide_eq_true h512, Bool.true_and]
    generalize fillTo zs 15 = x
    generalize usedTo zs 15 = y
    by_cases h0 : x = 0
    · subst h0; rfl
    rw [show ((x : Int) == 0) = false by simpa using h0, decide_eq_false h0]
    by_cases h1 : x = 32768
    · subst h1; rfl
    rw [show ((x : Int) == 32768) = false by simp; omega, decide_eq_false h1]
    by_cases h2 : y = 1
    · subst h2
      simp only [lif_false, Bool.false_or, decide_true, Bool.true_and]
      rw [show (((1 : Nat) : Int) == 1) = true from rfl, lif_true]
      by_cases h3 : x = 16384
      · subst h3; rfl
      · rw [decide_eq_false h3, show ((x : Int) == 16384) = false by simp; omega]
    · rw [show ((y : Int) == 1) = false by simp; omega, decide_eq_false h2]
      rfl
  | succ m ih =>
    intro n j hn hj
    obtain ⟨j, rfl⟩ : ∃ j', j = j' + 1 := ⟨j - 1, by omega⟩
    have c0 : cell L ⟨r, 0 + (n + 1) * 1, none⟩ = some (.int .i64 (cnt zs (n + 1) : Int)) := by
      rw [cell_of hL, Nat.zero_add, Nat.mul_one, cntCells_get _ (by omega)]; rfl
    have h1 := cnt_le zs (n + 1)
    have h2 := fillTo_le hok n (by omega)
    have h3 := usedTo_le hok n (by omega)
    have hp : 2 ^ (15 - (n + 1)) ≤ 2 ^ 14 := Nat.pow_le_pow_right (by omega) (by omega)
    have hm : cnt zs (n + 1) * 2 ^ (15 - (n + 1)) ≤ 512 * 2 ^ 14 := Nat.mul_le_mul (by omega) hp
    have e1 : IntKind.wrap .i64 (15 - ((n + 1 : Nat) : Int)) = ((15 - (n + 1) : Nat) : Int) := by rw [wI64] <;> omega
    have e2 : (cnt zs (n + 1) : Int) * 2 ^ (15 - (n + 1)) = ((cnt zs (n + 1) * 2 ^ (15 - (n + 1)) : Nat) : Int) := by push_cast; rfl
    rw [f98_l6_eq, decide_eq_true (show ((n + 1 : Nat) : Int) < 16 by omega), decide_eq_true (show (0 : Int) ≤ ((n + 1 : Nat) : Int) by omega)]
    simp only [lif_true, when_true, Int.toNat_natCast, mk_add, c0, Option.bind_some, asI_int, obind_some, e1, ndec (Int.natCast_nonneg _)]
    rw [show min (15 - (n + 1)) 64 = 15 - (n + 1) by omega, e2]
    generalize hX : cnt zs (n + 1) * 2 ^ (15 - (n + 1)) = X at *
    rw [wI64 (n := (X : Int)) (by omega) (by omega), wI64 (n := (fillTo zs n : Int) + (X : Int)) (by omega) (by omega), wI64 (n := (usedTo zs n : Int) + (cnt zs (n + 1) : Int)) (by omega) (by omega), wI64 (n := ((n + 1 : Nat) : Int) + 1) (by omega) (by omega)]
    have := ih (n + 1) j (by omega) (by omega)
    rw [show fillTo zs (n + 1) = fillTo zs n + X by rw [← hX]; rfl, show usedTo zs (n + 1) = usedTo zs n + cnt zs (n + 1) from rfl] at this
    exact this
theorem may_false_of {zs : List Int} (h : okLen zs = false ∨ 512 < zs.length) : may zs = false := by
  rcases h with h | h
  · simp [may, h]
  · simp [may, show ¬ zs.length ≤ 512 by omega]
theorem may_okay {k : Nat} {l : Sl} {zs : List Int} {A : List Nat} {L : LHeap} (hl : Rd L l (zs.map iV) A) (hs : zs.length < 2 ^ 60) (hk : zs.length + 30 ≤ k) :
    ∃ L', f98 k l L = some (.ret (.bool (may zs)) L') ∧ Step [] L [] L' := by
  obtain ⟨k, rfl⟩ : ∃ k', k = k' + 1 := ⟨k - 1, by omega⟩
  have hn := hl.len
  simp only [List.length_map] at hn
  obtain ⟨L1, cs, a1, a2, a3, a4⟩ := count_ok (k := k) hl hs (by omega)
  rw [f98_eq]
  simp only [a1, lbind_ret, tupL_tuple, uncons_cons, nilL_nil, asAgg_agg, asB_bool, obind_some, a2, Nat.beq_refl, when_true]
  generalize hX : LBlk.cells _ 137 false 0 = X
  have hX' : X = .cells (cntCells []) 137 false 0 := by rw [← hX]; rfl
  have hnew : (L1 ++ [X])[L1.length]? = some (.cells (cntCells []) 137 false 0) := by rw [get_new, hX']
  rw [stores_all hnew (by simp [a2])]
  have st : Step [] L [] ((L1 ++ [X]).set L1.length (.cells cs 137 false 0)) := a4.trans (((Step.new [] L1 X).trans (Step.set _ (by simp))).less fun i hi => by simp at hi)
  refine ⟨_, ?_, st⟩
  simp only [obind_some]
  cases hok : okLen zs with
  | false => rw [may_false_of (.inl hok)]; rfl
  | true =>
    simp only [Bool.not_true, lif_false]
    by_cases h512 : 512 < zs.length
    · rw [decide_eq_true (by omega), may_false_of (.inr h512)]; rfl
    · rw [decide_eq_false (by omega), a3 hok]
      exact may_loop hok (by omega) (get_set_self hnew) 15 0 k (by omega) (by omega)
end Go.Proofs.Ytflhogapjmdkaaa.X
end

section
set_option maxRecDepth 100000
set_option linter.unusedVariables false
namespace Go.Proofs.Ytflhogapjmdkaaa.X
open Go Go.Rlm
theorem bytes32 : Proofs.Try.prog.types[56].bytes = 4 := by kernel_rfl
theorem size3 : Proofs.Try.prog.types[3].size = 1 := by kernel_rfl
theorem bytes3 : Proofs.Try.prog.types[3].bytes = 8 := by kernel_rfl
def fcAll (zs : List Int) : List Value := (List.range 16).map fun q => uV (fc zs q)
def fcCells (zs : List Int) (n : Nat) : List Value := (List.range 16).map fun q => if q < n then uV (fc zs q) else uV 0
@[simp] theorem fcCells_length (zs : List Int) (n : Nat) : (fcCells zs n).length = 16 := by simp [fcCells]
@[simp] theorem fcAll_length (zs : List Int) : (fcAll zs).length = 16 := by simp [fcAll]
theorem fcCells_all (zs : List Int) : fcCells zs 16 = fcAll zs := by
  refine List.map_congr_left fun q hq => ?_
  rw [if_pos (List.mem_range.1 hq)]
theorem fcCells_set (zs : List Int) {n : Nat} (h : n < 16) : (fcCells zs n).set n (uV (fc zs n)) = fcCells zs (n + 1) := by
  apply List.ext_getElem?
  intro i
  by_cases hi : i < 16
  · have e : (fcCells zs (n + 1))[i]? = some (if i < n + 1 then uV (fc zs i) else uV 0) := by simp [fcCells, hi]
    rw [e]
    by_cases hn : n = i
    · subst hn
      rw [List.getElem?_set_self (by simp; omega), if_pos (by omega)]
    · rw [List.getElem?_set_ne hn]
      have e2 : (fcCells zs n)[i]? = some (if i < n then uV (fc zs i) else uV 0) := by simp [fcCells, hi]
      rw [e2]
      by_cases h2 : i < n
      · rw [if_pos h2, if_pos (by omega)]
      · rw [if_neg h2, if_neg (by omega)]
  · rw [List.getElem?_eq_none (by simp; omega), List.getElem?_eq_none (by simp; omega)]
theorem firsts_loop {k r0 r1 : Nat} {zs : List Int} (hf : fillTo zs 15 ≤ 32768) (hne : r0 ≠ r1) : ∀ (m n j : Nat) (L : LHeap), n + 1 + m = 16 → m < j → L[r0]? = some (.cells (cntCells zs) 137 false 0) → L[r1]? = some (.cells (fcCells zs (n + 1)) 125 false 0) →
    ∃ L', f83_l3 k j r0 r1 (fc zs (n + 1) : Int) ((n + 1 : Nat) : Int) L = some (.ret (.agg (List.toArray (fcAll zs))) L') ∧ Step [r1] L [] L' := by
  intro m
  induction m with
  | zero =>
    intro n j L hn hj h0 h1
    obtain ⟨j, rfl⟩ : ∃ j', j = j' + 1 := ⟨j - 1, by omega⟩
    obtain rfl : n = 15 := by omega
    refine ⟨L, ?_, (Step.refl [r1] L).less fun i hi => .inr (by simp at hi)⟩
    rw [f83_l3_eq, decide_eq_false (by omega)]
    have h1 : L[r1]? = some (.cells (fcAll zs) 125 false 0) := by rw [← fcCells_all]; exact h1
    simp only [lif_false, cellsAt_all h1 (fcAll_length _), obind_some, fcAll_length, Nat.beq_refl, when_true, stores_all h1 rfl]
    rw [set_same h1]
    simp only [cellsAt_all h1 (fcAll_length _), obind_some]
  | succ m ih =>
    intro n j L hn hj h0 h1
    obtain ⟨j, rfl⟩ : ∃ j', j = j' + 1 := ⟨j - 1, by omega⟩
    rw [f83_l3_eq, decide_eq_true (show ((n + 1 : Nat) : Int) < 16 by omega), decide_eq_true (show (0 : Int) ≤ ((n + 1 : Nat) : Int) by omega)]
    simp only [lif_true, when_true, Int.toNat_natCast, mk_add]
    rw [stores_of h1 (by simp; omega)]
    have hset : setAll (fcCells zs (n + 1)) (0 + (n + 1) * 1) [Value.int .u32 (fc zs (n + 1) : Int)] = fcCells zs (n + 1 + 1) := by
      rw [← fcCells_set zs (show n + 1 < 16 by omega), Nat.zero_add, Nat.mul_one]; rfl
    rw [hset]
    have h0' : (L.set r1 (.cells (fcCells zs (n + 1 + 1)) 125 false 0))[r0]? = some (.cells (cntCells zs) 137 false 0) := by rw [get_set_ne hne.symm, h0]
    have c0 : cell (L.set r1 (.cells (fcCells zs (n + 1 + 1)) 125 false 0)) ⟨r0, 0 + (n + 1) * 1, none⟩ = some (.int .i64 (cnt zs (n + 1) : Int)) := by
      rw [cell_of h0', Nat.zero_add, Nat.mul_one, cntCells_get _ (by omega)]; rfl
    have hle := fc_cnt_le hf (n + 1) (by omega) (by omega)
    have hp : 2 ^ (n + 1) ≤ 2 ^ 15 := Nat.pow_le_pow_right (by omega) (by omega)
    have e1 : IntKind.wrap .u32 (IntKind.wrap .u32 ((fc zs (n + 1) : Int) + IntKind.wrap .u32 (cnt zs (n + 1) : Int)) * 2) = (fc zs (n + 1 + 1) : Int) := by
      rw [show fc zs (n + 1 + 1) = (fc zs (n + 1) + cnt zs (n + 1)) * 2 from rfl]
      rw [wU32 (n := (cnt zs (n + 1) : Int)) (by omega) (by omega), wU32 (n := (fc zs (n + 1) : Int) + (cnt zs (n + 1) : Int)) (by omega) (by omega), wU32] <;> omega
    simp only [obind_some, c0, Option.bind_some, asI_int, e1]
    rw [wI64 (n := ((n + 1 : Nat) : Int) + 1) (by omega) (by omega)]
    obtain ⟨L', r, st⟩ := ih (n + 1) j _ (by omega) (by omega) h0' (get_set_self h1)
    exact ⟨L', r, (Step.set _ (by simp)).trans st⟩
theorem firsts_ok {k : Nat} {zs : List Int} {L : LHeap} (hf : fillTo zs 15 ≤ 32768) (hk : 30 ≤ k) :
    ∃ L', f83 k (List.toArray (cntCells zs)) L = some (.ret (.agg (List.toArray (fcAll zs))) L') ∧ Step [] L [] L' := by
  obtain ⟨k, rfl⟩ : ∃ k', k = k' + 1 := ⟨k - 1, by omega⟩
  rw [f83_eq]
  generalize hX : LBlk.cells _ 125 false 0 = X
  have hX' : X = .cells (fcCells zs 1) 125 false 0 := by rw [← hX]; rfl
  have hlt : L.length < (L ++ [LBlk.cells (cntCells zs) 137 false 0]).length := by simp
  obtain ⟨L', r, st⟩ := firsts_loop (k := k) (r0 := L.length) (r1 := (L ++ [LBlk.cells (cntCells zs) 137 false 0]).length) hf (by omega) 15 0 k (L ++ [LBlk.cells (cntCells zs) 137 false 0] ++ [X]) (by omega) (by omega)
    (by rw [get_push hlt, get_new]) (by rw [get_new, hX'])
  refine ⟨L', r, ((Step.push [] L _).trans ((Step.new [] _ X).trans st)).less fun i hi => by simp at hi⟩
def nextCells (zs : List Int) (i : Nat) : List Value := (List.range 16).map fun q => uV (if q = 0 then 0 else fc zs q + cnt (zs.take i) q)
@[simp] theorem nextCells_length (zs : List Int) (n : Nat) : (nextCells zs n).length = 16 := by simp [nextCells]
theorem nextCells_get (zs : List Int) (i : Nat) {q : Nat} (h : q < 16) (h0 : q ≠ 0) : (nextCells zs i)[q]? = some (uV (fc zs q + cnt (zs.take i) q)) := by simp [nextCells, h, h0]
theorem nextCells_zero (zs : List Int) : nextCells zs 0 = fcAll zs := by
  refine List.map_congr_left fun q hq => ?_
  by_cases h : q = 0
  · subst h; rfl
  · simp [h]
theorem nextCells_same (zs : List Int) {i : Nat} (h : i < zs.length) (hz : zs[i] ≤ 0) : nextCells zs (i + 1) = nextCells zs i := by
  refine List.map_congr_left fun q hq => ?_
  by_cases hq0 : q = 0
  · simp [hq0]
  · rw [if_neg hq0, if_neg hq0, cnt_take_succ h, if_neg (by omega)]; rfl
theorem nextCells_set (zs : List Int) {i : Nat} (h : i < zs.length) (h0 : 0 < zs[i]) (h1 : zs[i] ≤ 15) :
    (nextCells zs i).set zs[i].toNat (uV (fc zs zs[i].toNat + cnt (zs.take i) zs[i].toNat + 1)) = nextCells zs (i + 1) := by
  apply List.ext_getElem?
  intro q
  by_cases hq : q < 16
  · by_cases hz : zs[i].toNat = q
    · rw [hz, List.getElem?_set_self (by simp; omega), nextCells_get _ _ hq (by omega), cnt_take_succ h, if_pos (by omega)]
      rfl
    · rw [List.getElem?_set_ne hz]
      by_cases hq0 : q = 0
      · subst hq0; simp [nextCells]
      · rw [nextCells_get _ _ hq hq0, nextCells_get _ _ hq hq0, cnt_take_succ h, if_neg (by omega)]; rfl
  · rw [List.getElem?_eq_none (by simp; omega), List.getElem?_eq_none (by simp; omega)]
def outCells (zs : List Int) (i : Nat) : List Value := (List.range zs.length).map fun q => if q < i then uV (codeAt zs q) else uV 0
@[simp] theorem outCells_length (zs : List Int) (i : Nat) : (outCells zs i).length = zs.length := by simp [outCells]
theorem outCells_zero (zs : List Int) : outCells zs 0 = List.replicate zs.length (uV 0) := by
  rw [List.eq_replicate_iff]; simp [outCells]
theorem outCells_all (zs : List Int) {i : Nat} (h : zs.length ≤ i) : outCells zs i = (codesOf zs).map uV := by
  rw [codesOf, List.map_map]
  refine List.map_congr_left fun q hq => ?_
  have := List.mem_range.1 hq
  rw [if_pos (by omega)]; rfl
theorem outCells_set (zs : List Int) {i : Nat} (h : i < zs.length) : (outCells zs i).set i (uV (codeAt zs i)) = outCells zs (i + 1) := by
  apply List.ext_getElem?
  intro q
  by_cases hq : q < zs.length
  · have e : ∀ n, (outCells zs n)[q]? = some (if q < n then uV (codeAt zs q) else uV 0) := fun n => by simp [outCells, hq]
    by_cases hi : i = q
    · subst hi
      rw [List.getElem?_set_self (by simpa using hq), e, if_pos (by omega)]
    · rw [List.getElem?_set_ne hi, e, e]
      by_cases h2 : q < i
      · rw [if_pos h2, if_pos (by omega)]
      · rw [if_neg h2, if_neg (by omega)]
  · rw [List.getElem?_eq_none (by simp; omega), List.getElem?_eq_none (by simp; omega)]
theorem outCells_same (zs : List Int) {i : Nat} (h : i < zs.length) (hz : zs[i] ≤ 0) : outCells zs (i + 1) = outCells zs i := by
  refine List.map_congr_left fun q hq => ?_
  by_cases h2 : q < i
  · rw [if_pos h2, if_pos (by omega)]
  · rw [if_neg h2]
    by_cases h3 : q = i
    · subst h3
      rw [if_pos (by omega)]
      unfold codeAt
      rw [List.getD_eq_getElem?_getD, List.getElem?_eq_getElem h, Option.getD_some, if_neg (by omega)]
    · rw [if_neg (by omega)]
theorem codes_loop {k r : Nat} {l s : Sl} {zs : List Int} {A : List Nat} (hm : may zs = true) (hrA : r ∉ A) (hn : l.n = zs.length) :
    ∀ (m i j : Nat) (F : List Nat) (L : LHeap), i + m = zs.length → m < j → L[r]? = some (.cells (nextCells zs i) 125 false 0) → WS L s (outCells zs i) 56 F → r ∉ F → Apart F A → Rd L l (zs.map iV) A →
      ∃ L', f80_l7 k j r s l (l.n : Int) i L = some (.ret (.tuple #[.slice s.a s.n s.c, .int .i64 0]) L') ∧ WS L' s ((codesOf zs).map uV) 56 F ∧ Step (r :: F) L F L' := by
  obtain ⟨hok, h512, hfill⟩ := may_ok hm
  intro m
  induction m with
  | zero =>
    intro i j F L hi hj hr hs hrF hFA hl
    obtain ⟨j, rfl⟩ : ∃ j', j = j' + 1 := ⟨j - 1, by omega⟩
    rw [outCells_all zs (by omega)] at hs
    refine ⟨L, ?_, hs, (Step.refl (r :: F) L).less fun i hi => .inr (by simp [hi])⟩
    rw [f80_l7_eq, decide_eq_false (by omega)]
    rfl
  | succ m ih =>
    intro i j F L hi hj hr hs hrF hFA hl
    obtain ⟨j, rfl⟩ : ∃ j', j = j' + 1 := ⟨j - 1, by omega⟩
    have hiz : i < zs.length := by omega
    obtain ⟨a, a1, a2⟩ := hl.here (i := i) (v := iV zs[i]) (by simp [hiz])
    have hz := okLen_mem hok (List.getElem_mem hiz)
    rw [f80_l7_eq, decide_eq_true (by omega)]
    simp only [lif_true, a1, a2, iV, obind_some, Option.bind_some, asI_int]
    rw [wI64 (n := (i : Int) + 1) (by omega) (by omega)]
    by_cases h0 : zs[i] > 0
    · have hg : zs.getD i 0 = zs[i] := by rw [List.getD_eq_getElem?_getD, List.getElem?_eq_getElem hiz]; rfl
      have hcode : codeAt zs i = fc zs zs[i].toNat + cnt (zs.take i) zs[i].toNat := by unfold codeAt; rw [hg, if_pos (by omega)]
      have hc := codeAt_le hm i
      have c0 : cell L ⟨r, 0 + zs[i].toNat * 1, none⟩ = some (.int .u32 (codeAt zs i : Int)) := by
        rw [cell_of hr, Nat.zero_add, Nat.mul_one, nextCells_get _ _ (by omega) (by omega), hcode]; rfl
      obtain ⟨a', L1, b1, b2, b3, b4⟩ := hs.put (i := i) (by simpa using hiz) (uV (codeAt zs i))
      have hr1 : L1[r]? = some (.cells (nextCells zs i) 125 false 0) := by rw [b4.keep r (get_lt hr) hrF, hr]
      have c1 : cell L1 ⟨r, 0 + zs[i].toNat * 1, none⟩ = some (.int .u32 (codeAt zs i : Int)) := by
        rw [cell_of hr1, Nat.zero_add, Nat.mul_one, nextCells_get _ _ (by omega) (by omega), hcode]; rfl
      rw [decide_eq_true h0, decide_eq_true (show 0 ≤ zs[i] by omega), decide_eq_true (show zs[i] < 16 by omega)]
      have b2 : stores L a' [Value.int .u32 (codeAt zs i : Int)] = some L1 := b2
      simp only [lif_true, when_true, mk_add, c0, Option.bind_some, asI_int, obind_some, b1, b2, c1]
      rw [wU32 (n := (codeAt zs i : Int) + 1) (by omega) (by omega), stores_of hr1 (by simp; omega)]
      have hset : setAll (nextCells zs i) (0 + zs[i].toNat * 1) [Value.int .u32 ((codeAt zs i : Int) + 1)] = nextCells zs (i + 1) := by
        rw [← nextCells_set zs hiz h0 hz.2, Nat.zero_add, Nat.mul_one, ← hcode]; rfl
      rw [hset]
      have hl1 := hl.mono (b4.others hl.within hFA)
      rw [outCells_set zs hiz] at b3
      obtain ⟨L', e1, e2, e3⟩ := ih (i + 1) j F (L1.set r (.cells (nextCells zs (i + 1)) 125 false 0)) (by omega) (by omega) (get_set_self hr1) (b3.mono fun x hx => get_set_ne (fun e => hrF (e ▸ hx))) hrF hFA
        (hl1.mono fun x hx => get_set_ne (fun e => hrA (e ▸ hx)))
      refine ⟨L', e1, e2, ?_⟩
      exact ((b4.mono (fun x hx => by simp [hx])).less (G := r :: F) (fun x hx => .inr hx)).trans ((Step.set _ (by simp)).trans e3)
    · rw [decide_eq_false h0]
      have hs' := hs
      rw [← outCells_same zs hiz (by omega)] at hs'
      exact ih (i + 1) j F L (by omega) (by omega) (by rw [nextCells_same zs hiz (by omega)]; exact hr) hs' hrF hFA hl
def codesRes (zs : List Int) : List Nat := if may zs then codesOf zs else []
def codesErr (zs : List Int) : Int := if may zs then 0 else 4
theorem codes_ok {k : Nat} {l : Sl} {zs : List Int} {A : List Nat} {L : LHeap} (hl : Rd L l (zs.map iV) A) (hs : zs.length < 2 ^ 40) (hk : zs.length + 40 ≤ k) :
    ∃ s L' F, f80 k l L = some (.ret (.tuple #[.slice s.a s.n s.c, .int .i64 (codesErr zs)]) L') ∧ WS L' s ((codesRes zs).map uV) 56 F ∧ Step [] L F L' := by
  obtain ⟨k, rfl⟩ : ∃ k', k = k' + 1 := ⟨k - 1, by omega⟩
  have hn := hl.len
  simp only [List.length_map] at hn
  obtain ⟨L1, a1, a2⟩ := may_okay (k := k) hl (by omega) (by omega)
  rw [f80_eq]
  simp only [a1, lbind_ret, asB_bool, obind_some]
  cases hm : may zs with
  | false => exact ⟨⟨none, 0, 0⟩, L1, [], by rw [codesErr, hm]; rfl, .inl ⟨rfl, by rw [codesRes, hm]; rfl, rfl⟩, a2⟩
  | true =>
    obtain ⟨hok, h512, hfill⟩ := may_ok hm
    have hl1 := hl.mono (a2.others hl.within (none_apart _))
    obtain ⟨L2, cs, b1, b2, b3, b4⟩ := count_ok (k := k) hl1 (by omega) (by omega)
    obtain rfl := b3 hok
    have hl2 := hl1.mono (b4.others hl1.within (none_apart _))
    simp only [Bool.not_true, lif_false, b1, lbind_ret, tupL_tuple, uncons_cons, nilL_nil, asAgg_agg, asB_bool, obind_some, b2, Nat.beq_refl, when_true]
    generalize hX : LBlk.cells _ 137 false 0 = X
    have hX' : X = .cells (cntCells []) 137 false 0 := by rw [← hX]; rfl
    have hnew : (L2 ++ [X])[L2.length]? = some (.cells (cntCells []) 137 false 0) := by rw [get_new, hX']
    rw [stores_all hnew (by simp)]
    have st3 : Step [] L2 [] ((L2 ++ [X]).set L2.length (.cells (cntCells zs) 137 false 0)) := ((Step.new [] L2 X).trans (Step.set _ (by simp))).less fun i hi => by simp at hi
    have hb3 := get_set_self (x := LBlk.cells (cntCells zs) 137 false 0) hnew
    generalize (L2 ++ [X]).set L2.length (.cells (cntCells zs) 137 false 0) = L3 at *
    have hl3 := hl2.mono (st3.others hl2.within (none_apart _))
    simp only [obind_some, cellsAt_all hb3 (cntCells_length zs)]
    obtain ⟨L4, d1, d2⟩ := firsts_ok (k := k) (L := L3) hfill (by omega)
    have hl4 := hl3.mono (d2.others hl3.within (none_apart _))
    simp only [d1, lbind_ret, asAgg_agg, obind_some, fcAll_length, Nat.beq_refl, when_true]
    generalize hY : LBlk.cells _ 125 false 0 = Y
    have hY' : Y = .cells (fcCells zs 0) 125 false 0 := by rw [← hY]; rfl
    have hnew4 : (L4 ++ [Y])[L4.length]? = some (.cells (fcCells zs 0) 125 false 0) := by rw [get_new, hY']
    rw [stores_all hnew4 (by simp)]
    have st5 : Step [] L4 [L4.length] ((L4 ++ [Y]).set L4.length (.cells (fcAll zs) 125 false 0)) := (Step.new [] L4 Y).trans (Step.set _ (by simp))
    have hb5 := get_set_self (x := LBlk.cells (fcAll zs) 125 false 0) hnew4
    generalize (L4 ++ [Y]).set L4.length (.cells (fcAll zs) 125 false 0) = L5 at *
    have hl5 := hl4.mono (st5.others hl4.within (none_apart _))
    have hlt5 := get_lt hb5
    simp only [obind_some, bytes32, hn, room_ok (n := zs.length) (b := 4) (by omega) (by omega), when_true, Int.toNat_natCast]
    have hw := WS.made (L := L5) (n := zs.length) (v := Value.int .u32 0) (e := 56)
    have st6 := Step.new [] L5 (LBlk.cells (List.flatten (List.replicate zs.length [Value.int .u32 0])) 56 false 0)
    generalize L5 ++ [LBlk.cells (List.flatten (List.replicate zs.length [Value.int .u32 0])) 56 false 0] = L6 at *
    have hl6 := hl5.mono (st6.others hl5.within (none_apart _))
    have hb6 : L6[L4.length]? = some (.cells (nextCells zs 0) 125 false 0) := by rw [st6.keep _ hlt5 (by simp), hb5, nextCells_zero]
    have hw' : WS L6 ⟨some ⟨L5.length, 0, none⟩, zs.length, zs.length⟩ (outCells zs 0) 56 [L5.length] := by rw [outCells_zero]; exact hw
    obtain ⟨L7, e1, e2, e3⟩ := codes_loop (k := k) (r := L4.length) hm (fun h => by have := hl4.within _ h; omega) hn zs.length 0 k [L5.length] L6 (by omega) (by omega) hb6 hw' (by simp; omega) (st6.apart hl5.within (none_apart _)) hl6
    rw [hn] at e1
    refine ⟨_, L7, [L5.length], by rw [codesErr, if_pos hm]; exact e1, by rw [codesRes, if_pos hm]; exact e2, ?_⟩
    have p1 : Step [] L [] L4 := a2.trans (b4.trans (st3.trans d2))
    have p2 : Step [] L4 [L4.length, L5.length] L6 := by
      refine ⟨Nat.le_trans st5.len st6.len, fun i hi _ => by rw [st6.keep i (Nat.lt_of_lt_of_le hi st5.len) (by simp), st5.keep i hi (by simp)], fun i hi => ?_⟩
      have := st5.len
      simp at hi
      exact .inr (by omega)
    exact p1.trans (p2.trans e3)
def rOut (zs : List Int) (n i : Nat) : List Value := (List.range zs.length).map fun q => if 0 < zs.getD q 0 ∧ (zs.getD q 0 < (n : Int) ∨ (zs.getD q 0 = (n : Int) ∧ q < i)) then uV (codeAt zs q) else uV 0
@[simp] theorem rOut_length (zs : List Int) (n i : Nat) : (rOut zs n i).length = zs.length := by simp [rOut]
end Go.Proofs.Ytflhogapjmdkaaa.X
end

section
set_option maxRecDepth 100000
set_option linter.unusedVariables false
namespace Go.Proofs.Ytflhogapjmdkaaa.X
open Go Go.Rlm
theorem size95 : Proofs.Try.prog.types[157].size = 3 := by kernel_rfl
theorem bytes95 : Proofs.Try.prog.types[157].bytes = 24 := by kernel_rfl
theorem delete_ok {k : Nat} {s : Sl} {vs : List Value} {F : List Nat} {L : LHeap} (h : OP L s vs 3 F) {i : Nat} (hi : i < vs.length) (hl : vs.length < 2 ^ 40) (hk : 1 ≤ k) :
    ∃ s' L', f102 k s i ((i + 1 : Nat) : Int) L = some (.ret (.slice s'.a s'.n s'.c) L') ∧ OP L' s' (vs.eraseIdx i) 3 F ∧ Step F L F L' := by
  obtain ⟨k, rfl⟩ : ∃ k', k = k' + 1 := ⟨k - 1, by omega⟩
  rcases h with ⟨rfl, rfl, rfl⟩ | ⟨c, rest, rfl, h2, rfl⟩
  · simp at hi
  have hbl : blen L ⟨c, 0, none⟩ 1 = some (vs.length + rest.length) := by
    have := blen_of (o := 0) h2
    simpa using this
  have bO : Nat.blt OPEN OPEN = false := by decide
  have bE : Nat.beq OPEN OPEN = true := Nat.beq_refl _
  have bd : ∀ (i d y : Nat), i ≤ y → bound (some (i : Int)) d y = some i := fun i d y hiy => by
    simp only [bound]
    rw [show (decide ((0 : Int) ≤ (i : Int)) && decide ((i : Int) ≤ (y : Int))) = true by simpa using hiy]
    simp
  have bn : ∀ (d y : Nat), d ≤ y → bound none d y = some d := fun d y hdy => by
    simp only [bound]
    rw [Nat.ble_eq_true_of_le hdy]; rfl
  have cut1 : cut L ⟨some ⟨c, 0, none⟩, vs.length, OPEN⟩ (some (i : Int)) (some ((i + 1 : Nat) : Int)) (some (vs.length : Int)) 1 ≠ none := by
    simp only [cut, bO, bE, cond_true, cond_false, hbl, Option.bind_eq_bind, Option.bind_some, bd vs.length 0 _ (Nat.le_add_right _ _), bd (i + 1) _ _ (show i + 1 ≤ vs.length by omega), bd i 0 _ (show i ≤ i + 1 by omega)]
    rw [if_pos (show vs.length < OPEN by unfold OPEN; omega)]
    simp
  obtain ⟨q1, hq1⟩ := Option.ne_none_iff_exists'.1 cut1
  have cut2 : cut L ⟨some ⟨c, 0, none⟩, vs.length, OPEN⟩ none (some (i : Int)) none 1 = some ⟨some ⟨c, 0, none⟩, i, OPEN⟩ := by
    simp only [cut, bO, bE, cond_true, cond_false, hbl, Option.bind_eq_bind, Option.bind_some, bd i _ _ (show i ≤ vs.length + rest.length by omega), bn 0 _ (Nat.zero_le _)]
    rfl
  have cut3 : ∃ q, cut L ⟨some ⟨c, 0, none⟩, vs.length, OPEN⟩ (some ((i + 1 : Nat) : Int)) none none 1 = some q ∧ q.n = vs.length - (i + 1) ∧ srcOf L 1 q.n (.slice q.a q.n q.c) = some (vs.drop (i + 1)) := by
    simp only [cut, bO, bE, cond_true, cond_false, hbl, Option.bind_eq_bind, Option.bind_some, bn vs.length _ (Nat.le_add_right _ _), bd (i + 1) _ _ (show i + 1 ≤ vs.length by omega)]
    rw [if_neg (by omega)]
    by_cases hlt : i + 1 < vs.length + rest.length
    · rw [if_pos hlt]
      refine ⟨_, rfl, rfl, ?_⟩
      simp only [srcOf, srcCells, mk_add, Nat.mul_one, Nat.zero_add]
      by_cases h0 : vs.length - (i + 1) = 0
      · rw [h0, List.drop_eq_nil_of_le (by omega)]; rfl
      · have hb : Nat.beq (vs.length - (i + 1)) 0 = false := by
          cases hc : Nat.beq (vs.length - (i + 1)) 0 with
          | false => rfl
          | true => exact absurd (Nat.eq_of_beq_eq_true hc) h0
        rw [hb]
        simp only [cond_false, cellsAt, h2]
        rw [Nat.ble_eq_true_of_le (by simp; omega), cond_true]
        refine congrArg some ?_
        rw [List.drop_append_of_le_length (by omega), List.take_append_of_le_length (by simp), List.take_of_length_le (by simp)]
    · rw [if_neg hlt]
      refine ⟨_, rfl, by simp; omega, ?_⟩
      rw [List.drop_eq_nil_of_le (by omega)]
      rfl
  obtain ⟨q3, hq3, hn3, hs3⟩ := cut3
  -- the block behind the copy
  have herase : vs.eraseIdx i = vs.take i ++ vs.drop (i + 1) := List.eraseIdx_eq_take_drop_succ _ _
  have hlen : (vs.take i ++ vs.drop (i + 1)).length = vs.length - 1 := by simp; omega
  have happ : ∃ last L1, app L 3 1 8 ⟨some ⟨c, 0, none⟩, i, OPEN⟩ q3.n (vs.drop (i + 1)) = some (⟨some ⟨c, 0, none⟩, vs.length - 1, OPEN⟩, L1) ∧ L1[c]? = some (.cells (vs.take i ++ vs.drop (i + 1) ++ last :: rest) 3 false 1) ∧ Step [c] L [c] L1 := by
    simp only [app, bO, bE, cond_true, cond_false, hbl, hn3]
    rw [show i + (vs.length - (i + 1)) = vs.length - 1 by omega, Nat.ble_eq_true_of_le (show vs.length - 1 ≤ vs.length + rest.length by omega), cond_true]
    by_cases h0 : i + 1 = vs.length
    · rw [List.drop_eq_nil_of_le (by omega)]
      refine ⟨vs[i], L, rfl, ?_, .refl _ _⟩
      have hv : vs = vs.take i ++ [vs[i]] := by
        conv => lhs; rw [← List.take_length (l := vs), ← h0, List.take_succ_eq_append_getElem hi]
      have hx : vs ++ rest = vs.take i ++ [] ++ vs[i] :: rest := (congrArg (· ++ rest) hv).trans (by simp only [List.append_assoc, List.singleton_append, List.append_nil])
      rw [h2, hx]
    · have hem : (vs.drop (i + 1)).isEmpty = false := by
        cases hd : vs.drop (i + 1) with
        | nil => have := congrArg List.length hd; simp at this; omega
        | cons x xs => rfl
      rw [hem, cond_false]
      simp only [mk_add, Nat.zero_add, Nat.mul_one]
      rw [stores_of h2 (by simp; omega)]
      have hlast : vs.length - 1 < vs.length := by omega
      refine ⟨vs[vs.length - 1], _, rfl, ?_, .set _ (by simp)⟩
      have hsplit : vs = vs.take i ++ ((vs.drop i).take (vs.length - (i + 1)) ++ [vs[vs.length - 1]]) := by
        have h1 : vs = vs.take (vs.length - 1) ++ [vs[vs.length - 1]] := by
          conv => lhs; rw [← List.take_length (l := vs), show vs.length = vs.length - 1 + 1 by omega]
          rw [List.take_succ_eq_append_getElem hlast]
        have h3 : vs.take (vs.length - 1) = vs.take i ++ (vs.drop i).take (vs.length - (i + 1)) := by
          rw [← List.take_add, show i + (vs.length - (i + 1)) = vs.length - 1 by omega]
        rw [← List.append_assoc, ← h3]; exact h1
      have hA : (vs.take i).length = i := by simp; omega
      have := setAll_append (vs.take i) ([vs[vs.length - 1]] ++ rest) (vs.drop (i + 1)) ((vs.drop i).take (vs.length - (i + 1))) (by simp; omega)
      rw [hA] at this
      have he : vs ++ rest = vs.take i ++ (vs.drop i).take (vs.length - (i + 1)) ++ ([vs[vs.length - 1]] ++ rest) := (congrArg (· ++ rest) hsplit).trans (by simp only [List.append_assoc])
      have hx : setAll (vs ++ rest) i (vs.drop (i + 1)) = vs.take i ++ vs.drop (i + 1) ++ vs[vs.length - 1] :: rest := by
        rw [he, this]
        simp
      rw [hx, get_set_self h2]
  obtain ⟨last, L1, g1, g2, g3⟩ := happ
  have hbl1 : blen L1 ⟨c, 0, none⟩ 1 = some (vs.length + rest.length) := by
    have := blen_of (o := 0) g2
    rw [this]
    simp
    omega
  have cut4 : ∃ q, cut L1 ⟨some ⟨c, 0, none⟩, vs.length - 1, OPEN⟩ (some ((vs.length - 1 : Nat) : Int)) (some (vs.length : Int)) none 1 = some q ∧ q.n = 1 ∧ q.a = some ⟨c, vs.length - 1, none⟩ := by
    simp only [cut, bO, bE, cond_true, cond_false, hbl1, Option.bind_eq_bind, Option.bind_some, bd vs.length _ _ (Nat.le_add_right _ _), bd (vs.length - 1) _ _ (show vs.length - 1 ≤ vs.length by omega)]
    by_cases h0 : vs.length - 1 = 0
    · rw [if_pos h0]
      exact ⟨_, rfl, by simp; omega, by rw [h0]⟩
    · rw [if_neg h0, if_pos (by omega)]
      exact ⟨_, rfl, by simp; omega, by simp⟩
  obtain ⟨q4, hq4, hn4, ha4⟩ := cut4
  refine ⟨⟨some ⟨c, 0, none⟩, vs.length - 1, OPEN⟩, L1.set c (.cells (vs.take i ++ vs.drop (i + 1) ++ .int .i64 0 :: rest) 3 false 1), ?_, .inr ⟨c, .int .i64 0 :: rest, by rw [herase, hlen], by rw [get_set_self g2, herase], rfl⟩, g3.trans (.set _ (by simp))⟩
  rw [f102_eq]
  have hne : ((i : Int) == ((i + 1 : Nat) : Int)) = false := by simp; omega
  simp only [hq1, hq3, cut2, obind_some, hne, lif_false, size3, bytes3, hs3, g1, hq4, hn4]
  have hlc : lcopy L1 q4 1 [Value.int IntKind.i64 0].length (List.flatten (List.replicate 1 [Value.int IntKind.i64 0])) = some (L1.set c (.cells (vs.take i ++ vs.drop (i + 1) ++ .int .i64 0 :: rest) 3 false 1)) := by
    simp only [lcopy, ha4]
    rw [show (Nat.beq 1 0 || Nat.beq [Value.int IntKind.i64 0].length 0) = false from rfl, cond_false]
    simp only [List.replicate_one, List.flatten_cons, List.flatten_nil, List.append_nil]
    rw [stores_of g2 (by simp; omega)]
    have := setAll_append (vs.take i ++ vs.drop (i + 1)) rest [Value.int IntKind.i64 0] [last] rfl
    rw [hlen] at this
    simp only [List.append_assoc, List.singleton_append] at this
    simp only [List.append_assoc]
    rw [this]
  rw [hlc]
  rfl
end Go.Proofs.Ytflhogapjmdkaaa.X
end

section
set_option maxRecDepth 100000
set_option linter.unusedVariables false
namespace Go.Proofs.Ytflhogapjmdkaaa.X
open Go Go.Rlm
abbrev Tri := Int × Int × Int
def triCells : List Tri → List Value
  | [] => []
  | p :: ps => iV p.1 :: iV p.2.1 :: iV p.2.2 :: triCells ps
@[simp] theorem triCells_length (ps : List Tri) : (triCells ps).length = ps.length * 3 := by
  induction ps with
  | nil => rfl
  | cons p ps ih => simp [triCells, ih]; omega
theorem triCells_get {ps : List Tri} {i : Nat} {p : Tri} (h : ps[i]? = some p) : (triCells ps)[i * 3]? = some (iV p.1) ∧ (triCells ps)[i * 3 + 1]? = some (iV p.2.1) ∧ (triCells ps)[i * 3 + 2]? = some (iV p.2.2) := by
  induction ps generalizing i with
  | nil => simp at h
  | cons q ps ih =>
    cases i with
    | zero => simp at h; subst h; simp [triCells]
    | succ i =>
      have := ih (i := i) (by simpa using h)
      rw [show (i + 1) * 3 = i * 3 + 1 + 1 + 1 by omega]
      simpa [triCells] using this
theorem triCells_append (a b : List Tri) : triCells (a ++ b) = triCells a ++ triCells b := by
  induction a with
  | nil => rfl
  | cons p a ih => simp [triCells, ih]
def kV (k : Nat) : Value := .int .i64 (k : Int)
/-- At place k stands this tree. -/
def NR (ns : List Tri) : Nat → HT → Prop
  | k, .leaf w i => ns[k]? = some ((w : Int), -1, (i : Int))
  | k, .node l r => ∃ a b : Nat, ns[k]? = some (((l.wt + r.wt : Nat) : Int), (a : Int), (b : Int)) ∧ NR ns a l ∧ NR ns b r
theorem NR.mono {ns : List Tri} (x : List Tri) {t : HT} : ∀ {k : Nat}, NR ns k t → NR (ns ++ x) k t := by
  induction t with
  | leaf w i => intro k h; simp only [NR] at h ⊢; rw [List.getElem?_append_left (get_lt h), h]
  | node l r ihl ihr =>
    intro k h
    obtain ⟨a, b, h1, h2, h3⟩ := h
    exact ⟨a, b, by rw [List.getElem?_append_left (get_lt h1), h1], ihl h2, ihr h3⟩
theorem NR.wt {ns : List Tri} {t : HT} {k : Nat} (h : NR ns k t) : ∃ x, ns[k]? = some ((t.wt : Int), x) := by
  cases t with
  | leaf w i => exact ⟨_, h⟩
  | node l r => obtain ⟨a, b, h1, _⟩ := h; exact ⟨_, h1⟩
/-- The forest: the trees' row, and those that are not put together yet. -/
def Forest (L : LHeap) (r1 r2 : Nat) (ns : List Tri) (ks : List Nat) (ts : List HT) (G : List Nat) : Prop :=
  ∃ (sa so : Sl) (Ga Go : List Nat), L[r1]? = some (.cells [.slice sa.a sa.n sa.c] 155 false 0) ∧ L[r2]? = some (.cells [.slice so.a so.n so.c] 49 false 0) ∧
    OZ L sa (triCells ns) 157 3 Ga ∧ OP L so (ks.map kV) 3 Go ∧ r1 ≠ r2 ∧ r1 ∉ Ga ∧ r1 ∉ Go ∧ r2 ∉ Ga ∧ r2 ∉ Go ∧ Apart Ga Go ∧ G = r1 :: r2 :: (Ga ++ Go) ∧
    ks.length = ts.length ∧ ∀ (i k : Nat) (t : HT), ks[i]? = some k → ts[i]? = some t → NR ns k t
theorem Forest.mono {L L' : LHeap} {r1 r2 : Nat} {ns : List Tri} {ks : List Nat} {ts : List HT} {G : List Nat} (h : Forest L r1 r2 ns ks ts G) (hk : ∀ i ∈ G, L'[i]? = L[i]?) : Forest L' r1 r2 ns ks ts G := by
  obtain ⟨sa, so, Ga, Go, h1, h2, h3, h4, h5, h6, h7, h8, h9, h10, rfl, h11, h12⟩ := h
  exact ⟨sa, so, Ga, Go, by rw [hk r1 (by simp), h1], by rw [hk r2 (by simp), h2], h3.mono fun i hi => hk i (by simp [hi]), h4.mono fun i hi => hk i (by simp [hi]), h5, h6, h7, h8, h9, h10, rfl, h11, h12⟩
theorem Forest.within {L : LHeap} {r1 r2 : Nat} {ns : List Tri} {ks : List Nat} {ts : List HT} {G : List Nat} (h : Forest L r1 r2 ns ks ts G) : Within G L := by
  obtain ⟨sa, so, Ga, Go, h1, h2, h3, h4, h5, h6, h7, h8, h9, h10, rfl, h11, h12⟩ := h
  intro i hi
  simp only [List.mem_cons, List.mem_append] at hi
  rcases hi with rfl | rfl | hi | hi
  · exact get_lt h1
  · exact get_lt h2
  · exact h3.within i hi
  · exact h4.within i hi
theorem map_erase {α β : Type} (f : α → β) : ∀ (l : List α) (i : Nat), (l.eraseIdx i).map f = (l.map f).eraseIdx i
  | [], i => by simp
  | x :: l, 0 => by simp
  | x :: l, i + 1 => by simp [map_erase f l i]
/-- The least: its place is told, and taken away. -/
theorem least_loop {k r1 r2 : Nat} {sa so : Sl} {ns : List Tri} {ks : List Nat} {ts : List HT} {Ga Go : List Nat} {L : LHeap} (h1 : L[r1]? = some (.cells [.slice sa.a sa.n sa.c] 155 false 0)) (h2 : L[r2]? = some (.cells [.slice so.a so.n so.c] 49 false 0))
    (h3 : OZ L sa (triCells ns) 157 3 Ga) (h4 : OP L so (ks.map kV) 3 Go) (h11 : ks.length = ts.length) (h12 : ∀ (i k : Nat) (t : HT), ks[i]? = some k → ts[i]? = some t → NR ns k t) (hlen : ks.length < 2 ^ 40) :
    ∀ (m i a j : Nat), i + m = ts.length → m < j → a < ts.length →
      f101_l3 k j r2 r1 (a : Int) so (so.n : Int) (i : Int) L = f101_l3 k (j - m) r2 r1 ((minLoop (ts.map HT.wt) m i a : Nat) : Int) so (so.n : Int) (ts.length : Int) L := by
  have hn := h4.rd.len
  simp only [List.length_map] at hn
  have hns : sa.n = ns.length := by have := h3.1; simp at this; omega
  have c1 : cell L ⟨r1, 0, none⟩ = some (.slice sa.a sa.n sa.c) := by rw [cell_of h1]; rfl
  have c2 : cell L ⟨r2, 0, none⟩ = some (.slice so.a so.n so.c) := by rw [cell_of h2]; rfl
  have key : ∀ i, (hi : i < ts.length) → ∃ (a : Addr) (k c : Nat), idx so (i : Int) 1 = some a ∧ cell L a = some (.int .i64 (k : Int)) ∧ idx sa ((k : Nat) : Int) 3 = some ⟨c, k * 3, none⟩ ∧ cell L ⟨c, k * 3, none⟩ = some (.int .i64 ((ts.map HT.wt).getD i 0 : Nat)) := by
    intro i hi
    have hk : ks[i]? = some ks[i] := List.getElem?_eq_getElem (by omega)
    obtain ⟨a, a1, a2⟩ := h4.rd.here (i := i) (v := kV ks[i]) (by simp [h11, hi])
    have hnr := h12 i ks[i] ts[i] hk (List.getElem?_eq_getElem hi)
    obtain ⟨x, hx⟩ := hnr.wt
    obtain ⟨c, e1, e2⟩ := h3.get (i := ks[i]) (by rw [hns]; exact get_lt hx)
    refine ⟨a, ks[i], c, a1, a2, e1, ?_⟩
    rw [e2 L (fun _ _ => rfl), (triCells_get hx).1, wt_getD ts i hi, List.getD_eq_getElem?_getD, List.getElem?_eq_getElem hi]
    rfl
  intro m
  induction m with
  | zero =>
    intro i a j hi hj ha
    obtain rfl : i = ts.length := by omega
    rfl
  | succ m ih =>
    intro i a j hi hj ha
    obtain ⟨j, rfl⟩ : ∃ j', j = j' + 1 := ⟨j - 1, by omega⟩
    obtain ⟨a1, k1, x1, p1, p2, p3, p4⟩ := key i (by omega)
    obtain ⟨a2, k2, x2, q1, q2, q3, q4⟩ := key a ha
    rw [f101_l3_eq, decide_eq_true (by omega)]
    simp only [lif_true, p1, p2, p3, p4, q1, q2, q3, q4, c1, c2, obind_some, Option.bind_some, asI_int, asSl_slice, mk_add, Nat.add_zero]
    rw [wI64 (n := (i : Int) + 1) (by omega) (by omega), show j + 1 - (m + 1) = j - m by omega]
    simp only [minLoop]
    by_cases hw : (ts.map HT.wt).getD i 0 < (ts.map HT.wt).getD a 0
    · rw [decide_eq_true (by omega), if_pos hw]
      exact ih (i + 1) i j (by omega) (by omega) (by omega)
    · rw [decide_eq_false (by omega), if_neg hw]
      exact ih (i + 1) a j (by omega) (by omega) ha
theorem least_ok {k r1 r2 : Nat} {ns : List Tri} {ks : List Nat} {ts : List HT} {G : List Nat} {L : LHeap} (h : Forest L r1 r2 ns ks ts G) (hne : ts ≠ []) (hlen : ks.length < 2 ^ 40) (hk : ks.length + 10 ≤ k) :
    ∃ (q : Nat) (L' : LHeap), f101 k r2 r1 L = some (.ret (.int .i64 (q : Int)) L') ∧ NR ns q (pick ts) ∧ Forest L' r1 r2 ns (ks.eraseIdx (least ts)) (rest ts) G ∧ Step G L G L' := by
  obtain ⟨k, rfl⟩ : ∃ k', k = k' + 1 := ⟨k - 1, by omega⟩
  obtain ⟨sa, so, Ga, Go, h1, h2, h3, h4, h5, h6, h7, h8, h9, h10, rfl, h11, h12⟩ := h
  have hn := h4.rd.len
  simp only [List.length_map] at hn
  have hll := least_lt hne
  have c2 : cell L ⟨r2, 0, none⟩ = some (.slice so.a so.n so.c) := by rw [cell_of h2]; rfl
  have hks : ks[least ts]? = some ks[least ts] := List.getElem?_eq_getElem (by omega)
  have hpk : ts[least ts]? = some (pick ts) := by rw [pick, List.getD_eq_getElem?_getD, List.getElem?_eq_getElem hll]; rfl
  have hl := least_loop (k := k) h1 h2 h3 h4 h11 h12 hlen ts.length 0 0 k (by omega) (by omega) (by omega)
  have hmin : minLoop (ts.map HT.wt) ts.length 0 0 = least ts := by unfold least minAt; simp
  rw [hmin] at hl
  obtain ⟨a, a1, a2⟩ := h4.rd.here (i := least ts) (v := kV ks[least ts]) (by simp [h11, hll])
  obtain ⟨so', L1, d1, d2, d3⟩ := delete_ok (k := k) h4 (i := least ts) (by simp; omega) (by simpa using hlen) (by omega)
  have h21 : L1[r2]? = some (.cells [.slice so.a so.n so.c] 49 false 0) := by rw [d3.keep r2 (get_lt h2) h9, h2]
  have h11' : L1[r1]? = some (.cells [.slice sa.a sa.n sa.c] 155 false 0) := by rw [d3.keep r1 (get_lt h1) h7, h1]
  have h31 := h3.mono (d3.others h3.within h10.symm)
  refine ⟨ks[least ts], L1.set r2 (.cells [.slice so'.a so'.n so'.c] 49 false 0), ?_, h12 _ _ _ hks hpk, ⟨sa, so', Ga, Go, by rw [get_set_ne h5.symm, h11'], by rw [get_set_self h21], h31.mono fun i hi => get_set_ne (fun e => h8 (e ▸ hi)), ?_, h5, h6, h7, h8, h9, h10, rfl, ?_, ?_⟩, ?_⟩
  · rw [f101_eq]
    simp only [c2, Option.bind_some, asSl_slice, obind_some]
    rw [show ((0 : Nat) : Int) = 0 from rfl] at hl
    rw [hl]
    obtain ⟨j, hj⟩ : ∃ j, k - ts.length = j + 1 := ⟨k - ts.length - 1, by omega⟩
    rw [hj, f101_l3_eq, decide_eq_false (by omega)]
    simp only [lif_false, c2, Option.bind_some, asSl_slice, obind_some, a1, a2, kV, asI_int]
    rw [wI64 (by omega) (by omega)]
    have d1 : f102 k so (least ts : Int) ((least ts : Int) + 1) L = some (.ret (.slice so'.a so'.n so'.c) L1) := d1
    simp only [d1, lbind_ret, asSl_slice, obind_some]
    rw [stores_all h21 (news := [Value.slice so'.a so'.n so'.c]) rfl]
    rfl
  · rw [← map_erase] at d2
    exact d2.mono fun i hi => get_set_ne (fun e => h9 (e ▸ hi))
  · rw [List.length_eraseIdx_of_lt (by omega), rest_length hne]; omega
  · intro i q t hq ht
    rw [rest] at ht
    rw [List.getElem?_eraseIdx] at hq ht
    split at hq
    · rename_i hlt
      rw [if_pos hlt] at ht
      exact h12 _ _ _ hq ht
    · rename_i hlt
      rw [if_neg hlt] at ht
      exact h12 _ _ _ hq ht
  · exact ((d3.mono (G := r1 :: r2 :: (Ga ++ Go)) fun i hi => by simp [hi]).less fun i hi => .inr hi).trans (.set _ (by simp))
theorem src_tri {L : LHeap} {u v w : Value} {e : TypeId} {ro : Bool} {sp c : Nat} : srcOf (L ++ [LBlk.cells [u, v, w] e ro sp]) 3 1 (.slice (some ⟨L.length, 0, none⟩) 1 c) = some [u, v, w] := by
  simp [srcOf, srcCells, cellsAt]
  rfl
/-- A tree comes behind the others. -/
theorem push_ok {r1 r2 : Nat} {ns : List Tri} {ks : List Nat} {ts : List HT} {G : List Nat} {L : LHeap} (h : Forest L r1 r2 ns ks ts G) (p : Tri) (t : HT) (hp : NR (ns ++ [p]) ns.length t) (hlen : ns.length < 2 ^ 30) (hlk : ks.length < 2 ^ 30) :
    ∃ (sa so so' sa' : Sl) (La Lb Lc Ld : LHeap) (Ga G' : List Nat), L[r1]? = some (.cells [.slice sa.a sa.n sa.c] 155 false 0) ∧ L[r2]? = some (.cells [.slice so.a so.n so.c] 49 false 0) ∧ sa.n = ns.length ∧
      app (L ++ [LBlk.cells [kV ns.length] 3 false 0]) 3 1 8 so 1 [kV ns.length] = some (so', La) ∧ stores La ⟨r2, 0, none⟩ [.slice so'.a so'.n so'.c] = some Lb ∧ Lb[r1]? = some (.cells [.slice sa.a sa.n sa.c] 155 false 0) ∧ OZ Lb sa (triCells ns) 157 3 Ga ∧
      app (Lb ++ [LBlk.cells [iV p.1, iV p.2.1, iV p.2.2] 157 false 0]) 157 3 24 sa 1 [iV p.1, iV p.2.1, iV p.2.2] = some (sa', Lc) ∧ stores Lc ⟨r1, 0, none⟩ [.slice sa'.a sa'.n sa'.c] = some Ld ∧
      Forest Ld r1 r2 (ns ++ [p]) (ks ++ [ns.length]) (ts ++ [t]) G' ∧ Step G L G' Ld := by
  obtain ⟨sa, so, Ga, Go, h1, h2, h3, h4, h5, h6, h7, h8, h9, h10, rfl, h11, h12⟩ := h
  have hns : sa.n = ns.length := by have := h3.1; simp at this; omega
  obtain ⟨so', La, Go', a1, a2, a3⟩ := (h4.mono (L' := L ++ [LBlk.cells [kV ns.length] 3 false 0]) fun i hi => get_push (h4.within i hi)).app [kV ns.length] 8 (by simp) (by simp; omega) (by simp; omega)
  have st1 : Step Go L Go' La := (Step.push Go L _).trans a3
  have h2a : La[r2]? = some (.cells [.slice so.a so.n so.c] 49 false 0) := by rw [st1.keep r2 (get_lt h2) h9, h2]
  have h1a : La[r1]? = some (.cells [.slice sa.a sa.n sa.c] 155 false 0) := by rw [st1.keep r1 (get_lt h1) h7, h1]
  have h3a := h3.mono (st1.others h3.within h10.symm)
  have r2o : r2 ∉ Go' := fun hh => by rcases st1.foot r2 hh with q | q; exact h9 q; have := get_lt h2; omega
  have r1o : r1 ∉ Go' := fun hh => by rcases st1.foot r1 hh with q | q; exact h7 q; have := get_lt h1; omega
  have ap1 : Apart Ga Go' := (st1.apart h3.within h10.symm).symm
  have st2 : Step [r2] La [r2] (La.set r2 (.cells [.slice so'.a so'.n so'.c] 49 false 0)) := .set _ (by simp)
  have h2b := get_set_self (x := LBlk.cells [.slice so'.a so'.n so'.c] 49 false 0) h2a
  have sb : stores La ⟨r2, 0, none⟩ [.slice so'.a so'.n so'.c] = some (La.set r2 (.cells [.slice so'.a so'.n so'.c] 49 false 0)) := stores_all h2a rfl
  generalize La.set r2 (.cells [.slice so'.a so'.n so'.c] 49 false 0) = Lb at *
  have h1b : Lb[r1]? = some (.cells [.slice sa.a sa.n sa.c] 155 false 0) := by rw [st2.keep r1 (get_lt h1a) (by simpa using h5), h1a]
  have h3b := h3a.mono (st2.others h3a.within (one_apart h8))
  have a2b := a2.mono (st2.others a2.within (one_apart r2o))
  obtain ⟨sa', Lc, Ga', b1, b2, b3, b4⟩ := (h3b.mono (L' := Lb ++ [LBlk.cells [iV p.1, iV p.2.1, iV p.2.2] 157 false 0]) fun i hi => get_push (h3b.within i hi)).app [iV p.1, iV p.2.1, iV p.2.2] 1 24 (by omega) rfl (by omega) (by omega)
  have st3 : Step Ga Lb Ga' Lc := (Step.push Ga Lb _).trans b4
  have h1c : Lc[r1]? = some (.cells [.slice sa.a sa.n sa.c] 155 false 0) := by rw [st3.keep r1 (get_lt h1b) h6, h1b]
  have h2c : Lc[r2]? = some (.cells [.slice so'.a so'.n so'.c] 49 false 0) := by rw [st3.keep r2 (get_lt h2b) h8, h2b]
  have r1a : r1 ∉ Ga' := fun hh => by rcases st3.foot r1 hh with q | q; exact h6 q; have := get_lt h1b; omega
  have r2a : r2 ∉ Ga' := fun hh => by rcases st3.foot r2 hh with q | q; exact h8 q; have := get_lt h2b; omega
  have a2c := a2b.mono (st3.others a2b.within ap1)
  have ap2 := st3.apart a2b.within ap1
  have st4 : Step [r1] Lc [r1] (Lc.set r1 (.cells [.slice sa'.a sa'.n sa'.c] 155 false 0)) := .set _ (by simp)
  have h1d := get_set_self (x := LBlk.cells [.slice sa'.a sa'.n sa'.c] 155 false 0) h1c
  have sd : stores Lc ⟨r1, 0, none⟩ [.slice sa'.a sa'.n sa'.c] = some (Lc.set r1 (.cells [.slice sa'.a sa'.n sa'.c] 155 false 0)) := stores_all h1c rfl
  generalize Lc.set r1 (.cells [.slice sa'.a sa'.n sa'.c] 155 false 0) = Ld at *
  refine ⟨sa, so, so', sa', La, Lb, Lc, Ld, Ga, r1 :: r2 :: (Ga' ++ Go'), h1, h2, hns, a1, sb, h1b, h3b, b1, sd, ⟨sa', so', Ga', Go', h1d, by rw [st4.keep r2 (get_lt h2c) (by simpa using h5.symm), h2c], ?_, ?_, h5, r1a, r1o, r2a, r2o, ap2, rfl, ?_, ?_⟩, ?_⟩
  · rw [triCells_append]
    exact b2.mono (st4.others b2.within (one_apart r1a))
  · rw [List.map_append]
    exact a2c.mono (st4.others a2c.within (one_apart r1o))
  · simp [h11]
  · intro i k u hk hu
    by_cases hi : i < ks.length
    · rw [List.getElem?_append_left hi] at hk
      rw [List.getElem?_append_left (by omega)] at hu
      exact (h12 _ _ _ hk hu).mono _
    · rw [List.getElem?_append_right (by omega)] at hk
      rw [List.getElem?_append_right (by omega)] at hu
      have e : i - ks.length = 0 := by
        rcases Nat.eq_zero_or_pos (i - ks.length) with h0 | h0
        · exact h0
        · rw [List.getElem?_eq_none (by simp; omega)] at hk; cases hk
      rw [← h11, e] at hu
      rw [e] at hk
      simp at hk hu
      subst hk; subst hu
      exact hp
  · refine ⟨Nat.le_trans st1.len (Nat.le_trans st2.len (Nat.le_trans st3.len st4.len)), fun i hi hn => ?_, fun i hi => ?_⟩
    · simp only [List.mem_cons, List.mem_append, not_or] at hn
      have i1 := Nat.lt_of_lt_of_le hi st1.len
      have i2 := Nat.lt_of_lt_of_le i1 st2.len
      have i3 := Nat.lt_of_lt_of_le i2 st3.len
      rw [st4.keep i i3 (by simpa using hn.1), st3.keep i i2 hn.2.2.1, st2.keep i i1 (by simpa using hn.2.1), st1.keep i hi hn.2.2.2]
    · simp only [List.mem_cons, List.mem_append] at hi ⊢
      rcases hi with rfl | rfl | hi | hi
      · exact .inl (.inl rfl)
      · exact .inl (.inr (.inl rfl))
      · rcases st3.foot i hi with q | q
        · exact .inl (.inr (.inr (.inl q)))
        · exact .inr (Nat.le_trans st1.len (Nat.le_trans st2.len q))
      · rcases st1.foot i hi with q | q
        · exact .inl (.inr (.inr (.inr q)))
        · exact .inr q
def deepFn (r1 r0 r4 : Nat) : Value := .func (.func 103) #[] #[.pointer (some ⟨r1, 0, none⟩), .pointer (some ⟨r0, 0, none⟩), .pointer (some ⟨r4, 0, none⟩)]
theorem deep_app (k : Nat) (r1 r0 r4 : Nat) (a b : Int) (L : LHeap) : lapp (lcall Proofs.Try.prog T k) (deepFn r1 r0 r4) [.int .i64 a, .int .i64 b] L = f103 k a b r1 r0 r4 L := rfl
theorem deep_ok {r0 r1 r4 : Nat} {sa so : Sl} {ns : List Tri} {Ga Fo : List Nat} (h0 : r0 ∉ Fo) (h1 : r1 ∉ Fo) (h4 : r4 ∉ Fo) (ha : Apart Fo Ga) : ∀ (t : HT) (q n k : Nat) (out : List Int) (L : LHeap), NR ns q t → t.height + 2 ≤ k → (∀ i ∈ t.syms, i < out.length) → n + t.height < 2 ^ 40 →
    L[r0]? = some (.cells [.slice so.a so.n so.c] 49 false 0) → L[r1]? = some (.cells [.slice sa.a sa.n sa.c] 155 false 0) → L[r4]? = some (.cells [deepFn r1 r0 r4] 159 false 0) → OZ L sa (triCells ns) 157 3 Ga → WS L so (out.map iV) 3 Fo →
    ∃ L', f103 k (q : Int) (n : Int) r1 r0 r4 L = some (.ret (.tuple #[]) L') ∧ WS L' so ((t.lay n out).map iV) 3 Fo ∧ Step Fo L Fo L' := by
  intro t
  induction t with
  | leaf w i =>
    intro q n k out L hq hk hs hn b0 b1 b4 hz hw
    obtain ⟨k, rfl⟩ : ∃ k', k = k' + 1 := ⟨k - 1, by omega⟩
    have hns : sa.n = ns.length := by have := hz.1; simp at this; omega
    have hq : ns[q]? = some ((w : Int), -1, (i : Int)) := hq
    obtain ⟨g1, g2, g3⟩ := triCells_get hq
    obtain ⟨c, e1, e2⟩ := hz.get (i := q) (by rw [hns]; exact get_lt hq)
    have cc := e2 L fun _ _ => rfl
    have c1 : cell L ⟨r1, 0, none⟩ = some (.slice sa.a sa.n sa.c) := by rw [cell_of b1]; rfl
    have c0 : cell L ⟨r0, 0, none⟩ = some (.slice so.a so.n so.c) := by rw [cell_of b0]; rfl
    have hi := hs i (by simp [HT.syms])
    obtain ⟨a, L', p1, p2, p3, p4⟩ := hw.put (i := i) (by simpa using hi) (iV (n : Int))
    refine ⟨L', ?_, by rw [← List.map_set] at p3; exact p3, p4⟩
    rw [f103_eq]
    have p2 : stores L a [Value.int .i64 (n : Int)] = some L' := p2
    simp only [c1, c0, Option.bind_some, asSl_slice, obind_some, e1, mk_add, cc, g2, g3, iV, asI_int]
    rw [decide_eq_true (by omega)]
    simp only [lif_true, p1, p2, obind_some]
  | node l r ihl ihr =>
    intro q n k out L hq hk hs hn b0 b1 b4 hz hw
    obtain ⟨k, rfl⟩ : ∃ k', k = k' + 1 := ⟨k - 1, by omega⟩
    have hns : sa.n = ns.length := by have := hz.1; simp at this; omega
    obtain ⟨x, y, hq, hl, hr⟩ := hq
    obtain ⟨g1, g2, g3⟩ := triCells_get hq
    obtain ⟨c, e1, e2⟩ := hz.get (i := q) (by rw [hns]; exact get_lt hq)
    have cc := e2 L fun _ _ => rfl
    have c1 : cell L ⟨r1, 0, none⟩ = some (.slice sa.a sa.n sa.c) := by rw [cell_of b1]; rfl
    have c4 : cell L ⟨r4, 0, none⟩ = some (deepFn r1 r0 r4) := by rw [cell_of b4]; rfl
    simp only [HT.height, HT.syms] at hk hs hn
    obtain ⟨L1, p1, p2, p3⟩ := ihl x (n + 1) k out L hl (by omega) (fun i hi => hs i (List.mem_append.2 (.inl hi))) (by omega) b0 b1 b4 hz hw
    have b01 := (p3.keep r0 (get_lt b0) h0).trans b0
    have b11 := (p3.keep r1 (get_lt b1) h1).trans b1
    have b41 := (p3.keep r4 (get_lt b4) h4).trans b4
    have hz1 := hz.mono (p3.others hz.within ha)
    have cc1 := e2 L1 (p3.others hz.within ha)
    have c11 : cell L1 ⟨r1, 0, none⟩ = some (.slice sa.a sa.n sa.c) := by rw [cell_of b11]; rfl
    have c41 : cell L1 ⟨r4, 0, none⟩ = some (deepFn r1 r0 r4) := by rw [cell_of b41]; rfl
    obtain ⟨L2, q1, q2, q3⟩ := ihr y (n + 1) k (l.lay (n + 1) out) L1 hr (by omega) (fun i hi => by rw [HT.lay_length]; exact hs i (List.mem_append.2 (.inr hi))) (by omega) b01 b11 b41 hz1 p2
    refine ⟨L2, ?_, q2, p3.trans q3⟩
    rw [f103_eq]
    simp only [c1, Option.bind_some, asSl_slice, obind_some, e1, mk_add, cc, g2, iV, asI_int]
    rw [decide_eq_false (by omega), wI64 (n := (n : Int) + 1) (by omega) (by omega)]
    have p1 : f103 k (x : Int) ((n : Int) + 1) r1 r0 r4 L = some (.ret (.tuple #[]) L1) := p1
    have q1 : f103 k (y : Int) ((n : Int) + 1) r1 r0 r4 L1 = some (.ret (.tuple #[]) L2) := q1
    simp only [lif_false, c4, obind_some, deep_app, p1, lbindR_ret, c41, c11, Option.bind_some, asSl_slice, e1, mk_add, cc1, g3, iV, asI_int, q1]
end Go.Proofs.Ytflhogapjmdkaaa.X
end

section
set_option maxRecDepth 100000
set_option linter.unusedVariables false
namespace Go.Proofs.Ytflhogapjmdkaaa.X
open Go Go.Rlm
theorem collect {k r0 r1 r2 : Nat} {l : Sl} {fs : List Int} {A : List Nat} (hn : l.n = fs.length) (hf : fs.length < 2 ^ 29) :
    ∀ (m i j : Nat) (ns : List Tri) (G : List Nat) (L : LHeap), i + m = fs.length → m < j → Forest L r1 r2 ns (List.range ns.length) (leavesFrom 0 (fs.take i)) G → ns.length = (leavesFrom 0 (fs.take i)).length → Rd L l (fs.map iV) A → Apart G A →
      ∃ ns' G' L', f93_l5 k j r0 r1 r2 l (l.n : Int) (i : Int) L = f93_l5 k (j - m) r0 r1 r2 l (l.n : Int) (fs.length : Int) L' ∧ Forest L' r1 r2 ns' (List.range ns'.length) (leavesFrom 0 fs) G' ∧ ns'.length = (leavesFrom 0 fs).length ∧ Step G L G' L' := by
  intro m
  induction m with
  | zero =>
    intro i j ns G L hi hj hF hl hr hGA
    obtain rfl : i = fs.length := by omega
    rw [List.take_length] at hF hl
    exact ⟨ns, G, L, rfl, hF, hl, .refl _ _⟩
  | succ m ih =>
    intro i j ns G L hi hj hF hl hr hGA
    obtain ⟨j, rfl⟩ : ∃ j', j = j' + 1 := ⟨j - 1, by omega⟩
    have hiz : i < fs.length := by omega
    obtain ⟨a, a1, a2⟩ := hr.here (i := i) (v := iV fs[i]) (by simp [hiz])
    have hsn : leavesFrom 0 (fs.take (i + 1)) = leavesFrom 0 (fs.take i) ++ (if fs[i] > 0 then [.leaf fs[i].toNat i] else []) := by
      rw [take_succ_int hiz, leavesFrom_snoc]
      simp [show min i fs.length = i by omega]
    have hll := leavesFrom_length (fs.take i) 0
    simp only [List.length_take] at hll
    rw [f93_l5_eq, decide_eq_true (by omega), show j + 1 - (m + 1) = j - m by omega]
    simp only [lif_true, a1, a2, iV, obind_some, Option.bind_some, asI_int]
    rw [wI64 (n := (i : Int) + 1) (by omega) (by omega)]
    by_cases h0 : fs[i] > 0
    · rw [if_pos h0] at hsn
      obtain ⟨sa, so, so', sa', La, Lb, Lc, Ld, Ga, G', p1, p2, p3, p4, p5, p6, p7, p8, p9, p10, p11⟩ := push_ok hF (fs[i], -1, (i : Int)) (.leaf fs[i].toNat i) (by simp only [NR]; rw [List.getElem?_append_right (Nat.le_refl _)]; simp; omega) (by omega) (by simp; omega)
      rw [← hsn] at p10
      rw [← List.range_succ] at p10
      have hl' : (ns ++ [(fs[i], -1, (i : Int))]).length = (leavesFrom 0 (fs.take (i + 1))).length := by rw [hsn]; simp [hl]
      obtain ⟨ns', G2, L', e1, e2, e3, e4⟩ := ih (i + 1) j (ns ++ [(fs[i], -1, (i : Int))]) G' Ld (by omega) (by omega) (by simpa using p10) hl' (hr.mono (p11.others hr.within hGA)) (p11.apart hr.within hGA)
      refine ⟨ns', G2, L', ?_, e2, e3, p11.trans e4⟩
      rw [← e1, decide_eq_true h0]
      have c1 : cell L ⟨r1, 0, none⟩ = some (.slice sa.a sa.n sa.c) := by rw [cell_of p1]; rfl
      have c2 : cell L ⟨r2, 0, none⟩ = some (.slice so.a so.n so.c) := by rw [cell_of p2]; rfl
      have c3 : cell Lb ⟨r1, 0, none⟩ = some (.slice sa.a sa.n sa.c) := by rw [cell_of p6]; rfl
      rw [← p3] at p4
      simp only [kV] at p4
      simp only [iV] at p8
      simp only [lif_true, c1, c2, Option.bind_some, asSl_slice, obind_some, size3, bytes3, src_new, p4, p5, c3, size95, bytes95, src_tri, p8, p9]
      rfl
    · rw [if_neg h0, List.append_nil] at hsn
      rw [decide_eq_false h0]
      rw [← hsn] at hF hl
      exact ih (i + 1) j ns G L (by omega) (by omega) hF hl hr hGA
theorem merge {k r0 r1 r2 : Nat} : ∀ (m j : Nat) (ns : List Tri) (ks : List Nat) (ts : List HT) (G : List Nat) (L : LHeap), ts.length = m + 1 → m < j → Forest L r1 r2 ns ks ts G → ns.length + m < 2 ^ 29 → ts.length + 20 ≤ k → total ts < 2 ^ 60 →
    (∃ t, ts.getLast? = some t ∧ NR ns (ns.length - 1) t) →
    ∃ ns' ks' G' L', f93_l15 k j r0 r1 r2 r2 r1 L = f93_l15 k (j - m) r0 r1 r2 r2 r1 L' ∧ Forest L' r1 r2 ns' ks' (joinAll m ts) G' ∧ Step G L G' L' ∧ (∃ t, (joinAll m ts).getLast? = some t ∧ NR ns' (ns'.length - 1) t) ∧ ns'.length = ns.length + m := by
  intro m
  induction m with
  | zero =>
    intro j ns ks ts G L ht hj hF hns hk htot hlast
    exact ⟨ns, ks, G, L, rfl, hF, .refl _ _, hlast, rfl⟩
  | succ m ih =>
    intro j ns ks ts G L ht hj hF hns hk htot hlast
    obtain ⟨j, rfl⟩ : ∃ j', j = j' + 1 := ⟨j - 1, by omega⟩
    have hne : ts ≠ [] := by intro h0; subst h0; simp at ht
    have hr1 := rest_length hne
    have hne2 : rest ts ≠ [] := by intro h0; rw [h0] at hr1; simp at hr1; omega
    have hr2 := rest_length hne2
    have hks : ks.length = ts.length := by obtain ⟨_, _, _, _, _, _, _, _, _, _, _, _, _, _, _, h, _⟩ := hF; exact h
    have hso : ∃ so : Sl, cell L ⟨r2, 0, none⟩ = some (.slice so.a so.n so.c) ∧ so.n = ts.length := by
      obtain ⟨sa, so, Ga, Go, h1, h2, h3, h4, _, _, _, _, _, _, _, h11, _⟩ := hF
      refine ⟨so, by rw [cell_of h2]; rfl, ?_⟩
      have := h4.rd.len
      simp at this
      omega
    obtain ⟨so0, c0, hso0⟩ := hso
    obtain ⟨q1, L1, a1, a2, a3, a4⟩ := least_ok (k := k) hF hne (by omega) (by omega)
    have hks1 : (ks.eraseIdx (least ts)).length = (rest ts).length := by rw [List.length_eraseIdx_of_lt (by have := least_lt hne; omega)]; omega
    obtain ⟨q2, L2, b1, b2, b3, b4⟩ := least_ok (k := k) a3 hne2 (by omega) (by omega)
    have hks2 : ((ks.eraseIdx (least ts)).eraseIdx (least (rest ts))).length = (rest (rest ts)).length := by rw [List.length_eraseIdx_of_lt (by have := least_lt hne2; omega)]; omega
    generalize (ks.eraseIdx (least ts)).eraseIdx (least (rest ts)) = ks2 at *
    obtain ⟨x1, hx1⟩ := a2.wt
    obtain ⟨x2, hx2⟩ := b2.wt
    obtain ⟨sa, so, so', sa', La, Lb, Lc, Ld, Ga, G', p1, p2, p3, p4, p5, p6, p7, p8, p9, p10, p11⟩ := push_ok b3 ((((pick ts).wt + (pick (rest ts)).wt : Nat) : Int), (q1 : Int), (q2 : Int)) (.node (pick ts) (pick (rest ts)))
      ⟨q1, q2, by rw [List.getElem?_append_right (Nat.le_refl _)]; simp, a2.mono _, b2.mono _⟩ (by omega) (by omega)
    have hjoin : rest (rest ts) ++ [HT.node (pick ts) (pick (rest ts))] = join ts := rfl
    rw [hjoin] at p10
    have hjl : (join ts).length = m + 1 := by rw [join_length (by omega)]; omega
    obtain ⟨ns', ks', G2, L', e1, e2, e3, e4, e5⟩ := ih j _ _ (join ts) G' Ld hjl (by omega) p10 (by simp; omega) (by omega) (by rw [join_total (by omega)]; exact htot) ⟨.node (pick ts) (pick (rest ts)), by simp [join], by
      refine ⟨q1, q2, ?_, a2.mono _, b2.mono _⟩
      simp⟩
    refine ⟨ns', ks', G2, L', ?_, e2, (a4.trans (b4.trans p11)).trans e3, e4, by rw [e5]; simp; omega⟩
    have hwt : (pick ts).wt + (pick (rest ts)).wt ≤ total ts := by
      have h1 := sum_rest HT.wt hne
      have h2 := sum_rest HT.wt hne2
      simp only [total]
      omega
    obtain ⟨c1', i1, i2⟩ := p7.get (i := q1) (by rw [p3]; exact get_lt hx1)
    obtain ⟨c2', i3, i4⟩ := p7.get (i := q2) (by rw [p3]; exact get_lt hx2)
    have w1 := i2 Lb fun _ _ => rfl
    have w2 := i4 Lb fun _ _ => rfl
    obtain ⟨g1, _, _⟩ := triCells_get hx1
    obtain ⟨g2, _, _⟩ := triCells_get hx2
    have d1 : cell L2 ⟨r1, 0, none⟩ = some (.slice sa.a sa.n sa.c) := by rw [cell_of p1]; rfl
    have d2 : cell L2 ⟨r2, 0, none⟩ = some (.slice so.a so.n so.c) := by rw [cell_of p2]; rfl
    have d3 : cell Lb ⟨r1, 0, none⟩ = some (.slice sa.a sa.n sa.c) := by rw [cell_of p6]; rfl
    have d4 : ∀ X : LBlk, cell (Lb ++ [X]) ⟨r1, 0, none⟩ = some (.slice sa.a sa.n sa.c) := fun X => by rw [cell_of (by rw [get_push (get_lt p6)]; exact p6)]; rfl
    rw [← p3] at p4
    simp only [kV] at p4
    simp only [iV] at p8 g1 g2
    have ew : IntKind.wrap .i64 (((pick ts).wt : Int) + ((pick (rest ts)).wt : Int)) = (((pick ts).wt + (pick (rest ts)).wt : Nat) : Int) := by rw [wI64] <;> omega
    rw [show j + 1 - (m + 1) = j - m by omega, ← e1, f93_l15_eq]
    simp only [c0, Option.bind_some, asSl_slice, obind_some]
    rw [decide_eq_true (by omega)]
    simp only [lif_true, a1, b1, lbind_ret, asI_int, obind_some, d1, d2, Option.bind_some, asSl_slice, size3, bytes3, src_new, p4, p5, d3, i1, i3, mk_add, Nat.add_zero, w1, w2, g1, g2, ew, d4, same_self, when_true, size95, bytes95, src_tri, p8, p9]
theorem height_syms (t : HT) : t.height + 1 ≤ t.syms.length := by
  induction t with
  | leaf w i => simp [HT.height, HT.syms]
  | node l r ihl ihr => simp only [HT.height, HT.syms, List.length_append]; omega
theorem joinAll_inv {p : HT → Prop} (hn : ∀ a b, p a → p b → p (.node a b)) : ∀ (m : Nat) (ts : List HT), ts.length = m + 1 → (∀ t ∈ ts, p t) → ∀ t ∈ joinAll m ts, p t
  | 0, ts, _, h => h
  | m + 1, ts, hl, h => joinAll_inv hn m (join ts) (by rw [join_length (by omega)]; omega) (join_all (by omega) h hn)
theorem joinAll_sum {f : HT → Nat} (hn : ∀ a b, f (.node a b) = f a + f b) : ∀ (m : Nat) (ts : List HT), ts.length = m + 1 → ((joinAll m ts).map f).sum = (ts.map f).sum
  | 0, ts, _ => rfl
  | m + 1, ts, hl => by
    simp only [joinAll]
    rw [joinAll_sum hn m (join ts) (by rw [join_length (by omega)]; omega)]
    have := sum_join f (ts := ts) (by omega)
    rw [hn] at this
    omega
theorem leaves_syms (fs : List Int) (i : Nat) : ((leavesFrom i fs).map fun t => t.syms.length).sum = (leavesFrom i fs).length := by
  induction fs generalizing i with
  | nil => rfl
  | cons f fs ih =>
    simp only [leavesFrom]
    split
    · simp only [List.map_cons, List.sum_cons, List.length_cons, ih, HT.syms, List.length_nil]
      omega
    · exact ih _
theorem leaves_total {fs : List Int} (h : ∀ f ∈ fs, f ≤ 1073741824) (i : Nat) : total (leavesFrom i fs) ≤ fs.length * 1073741824 := by
  induction fs generalizing i with
  | nil => simp [leavesFrom, total]
  | cons f fs ih =>
    have := ih (fun g hg => h g (by simp [hg])) (i + 1)
    have hf := h f (by simp)
    simp only [total] at this
    simp only [leavesFrom, total, List.length_cons, Nat.add_mul]
    split
    · simp only [List.map_cons, List.sum_cons, HT.wt]; omega
    · exact Nat.le_trans this (Nat.le_add_right _ _)
theorem lensOf_one {fs : List Int} {t : HT} (h : leavesFrom 0 fs = [t]) : lensOf fs = t.lay 1 (List.replicate fs.length 0) := by unfold lensOf; rw [h]
theorem lensOf_nil {fs : List Int} (h : leavesFrom 0 fs = []) : lensOf fs = List.replicate fs.length 0 := by unfold lensOf; rw [h]
theorem lensOf_more {fs : List Int} {m : Nat} {t : HT} (h : (leavesFrom 0 fs).length = m + 2) (ht : joinAll (m + 1) (leavesFrom 0 fs) = [t]) : lensOf fs = t.lay 0 (List.replicate fs.length 0) := by
  unfold lensOf
  split
  · rename_i h0; rw [h0] at h; simp at h
  · rename_i h0; rw [h0] at h; simp at h
  · rename_i ts h0 h1
    rw [h, show m + 2 - 1 = m + 1 by omega, ht]
/-- The end: nothing more to put together. -/
theorem finish {k r0 r1 r2 : Nat} {so : Sl} {ns : List Tri} {ks : List Nat} {ts : List HT} {G Fo : List Nat} {out : List Int} {L : LHeap} (hF : Forest L r1 r2 ns ks ts G) (h1 : ts.length ≤ 1) (hns : ns.length < 2 ^ 40) (hts : ts = [] → ns = [])
    (hlast : ∀ t, ts = [t] → NR ns (ns.length - 1) t ∧ t.height + 2 ≤ k ∧ t.height < 2 ^ 30 ∧ ∀ i ∈ t.syms, i < out.length) (b0 : L[r0]? = some (.cells [.slice so.a so.n so.c] 49 false 0)) (hw : WS L so (out.map iV) 3 Fo)
    (h0 : r0 ∉ G) (h0o : r0 ∉ Fo) (hGo : Apart G Fo) (j : Nat) :
    ∃ L', f93_l15 k (j + 1) r0 r1 r2 r2 r1 L = some (.ret (.slice so.a so.n so.c) L') ∧ WS L' so ((match ts with | t :: _ => t.lay 0 out | [] => out).map iV) 3 Fo ∧ Step Fo L Fo L' := by
  obtain ⟨sa, sp, Ga, Go, g1, g2, g3, g4, g5, g6, g7, g8, g9, g10, rfl, g11, g12⟩ := hF
  have hsn : sa.n = ns.length := by have := g3.1; simp at this; omega
  have hso : sp.n = ts.length := by have := g4.rd.len; simp at this; omega
  have c2 : cell L ⟨r2, 0, none⟩ = some (.slice sp.a sp.n sp.c) := by rw [cell_of g2]; rfl
  have r1o : r1 ∉ Fo := fun h => hGo r1 (by simp) h
  have aGa : Apart Fo Ga := fun i hi hg => hGo i (by simp [hg]) hi
  rw [f93_l15_eq]
  simp only [c2, Option.bind_some, asSl_slice, obind_some]
  rw [decide_eq_false (by omega)]
  simp only [lif_false]
  have st0 : Step Fo L Fo (L ++ [LBlk.cells [Value.nilFunc] 159 false 0]) := .push _ _ _
  have hnew : (L ++ [LBlk.cells [Value.nilFunc] 159 false 0])[L.length]? = some (.cells [Value.nilFunc] 159 false 0) := get_new
  have hst : stores (L ++ [LBlk.cells [Value.nilFunc] 159 false 0]) ⟨L.length, 0, none⟩ [Value.func (Fn.func 103) #[] #[Value.pointer (some ⟨r1, 0, none⟩), Value.pointer (some ⟨r0, 0, none⟩), Value.pointer (some ⟨L.length, 0, none⟩)]] =
    some ((L ++ [LBlk.cells [Value.nilFunc] 159 false 0]).set L.length (.cells [deepFn r1 r0 L.length] 159 false 0)) := stores_all hnew rfl
  rw [hst]
  simp only [obind_some]
  have b4 := get_set_self (x := LBlk.cells [deepFn r1 r0 L.length] 159 false 0) hnew
  have st1 : Step Fo L Fo ((L ++ [LBlk.cells [Value.nilFunc] 159 false 0]).set L.length (.cells [deepFn r1 r0 L.length] 159 false 0)) := by
    refine ⟨by simp, fun i hi hn => ?_, fun i hi => .inl hi⟩
    rw [get_set_ne (by omega), get_push hi]
  have keep : ∀ i, i < L.length → ((L ++ [LBlk.cells [Value.nilFunc] 159 false 0]).set L.length (.cells [deepFn r1 r0 L.length] 159 false 0))[i]? = L[i]? := fun i hi => by rw [get_set_ne (by omega), get_push hi]
  show ∃ L', obind (Option.bind (cell ((L ++ [LBlk.cells [Value.nilFunc] 159 false 0]).set L.length (.cells [deepFn r1 r0 L.length] 159 false 0)) ⟨r1, 0, none⟩) asSl) _ = _ ∧ _
  generalize (L ++ [LBlk.cells [Value.nilFunc] 159 false 0]).set L.length (.cells [deepFn r1 r0 L.length] 159 false 0) = L1 at *
  have b1 : L1[r1]? = some (.cells [.slice sa.a sa.n sa.c] 155 false 0) := by rw [keep r1 (get_lt g1), g1]
  have b01 : L1[r0]? = some (.cells [.slice so.a so.n so.c] 49 false 0) := by rw [keep r0 (get_lt b0), b0]
  have hw1 := hw.mono fun i hi => keep i (hw.within i hi)
  have g31 := g3.mono fun i hi => keep i (g3.within i hi)
  have c1 : cell L1 ⟨r1, 0, none⟩ = some (.slice sa.a sa.n sa.c) := by rw [cell_of b1]; rfl
  have c0 : cell L1 ⟨r0, 0, none⟩ = some (.slice so.a so.n so.c) := by rw [cell_of b01]; rfl
  have c4 : cell L1 ⟨L.length, 0, none⟩ = some (deepFn r1 r0 L.length) := by rw [cell_of b4]; rfl
  simp only [c1, Option.bind_some, asSl_slice, obind_some]
  match ts, h1, hts, hlast with
  | [], _, hts, _ =>
    rw [decide_eq_false (by rw [hsn, hts rfl]; simp)]
    simp only [lif_false, c0, Option.bind_some, asSl_slice, obind_some]
    exact ⟨L1, rfl, hw1, st1⟩
  | [t], _, _, hlast =>
    obtain ⟨q1, q2, q3, q4⟩ := hlast t rfl
    obtain ⟨x, hx⟩ := q1.wt
    have hpos := get_lt hx
    rw [decide_eq_true (by omega)]
    obtain ⟨L2, e1, e2, e3⟩ := deep_ok (r4 := L.length) h0o r1o (fun h => by have := hw.within _ h; omega) aGa t (ns.length - 1) 0 k out L1 q1 q2 q4 (by omega) b01 b1 b4 g31 hw1
    have c02 : cell L2 ⟨r0, 0, none⟩ = some (.slice so.a so.n so.c) := by rw [cell_of ((e3.keep r0 (get_lt b01) h0o).trans b01)]; rfl
    have ew : IntKind.wrap .i64 ((sa.n : Int) - 1) = ((ns.length - 1 : Nat) : Int) := by rw [wI64] <;> omega
    have e1 : f103 k ((ns.length - 1 : Nat) : Int) 0 r1 r0 L.length L1 = some (.ret (.tuple #[]) L2) := e1
    simp only [lif_true, c4, c1, Option.bind_some, asSl_slice, obind_some, ew, deep_app, e1, lbind_ret, c02]
    exact ⟨L2, rfl, e2, st1.trans e3⟩
theorem once_ok {k : Nat} {l : Sl} {fs : List Int} {A : List Nat} {L : LHeap} (hl : Rd L l (fs.map iV) A) (hf : ∀ f ∈ fs, f ≤ 1073741824) (hs : fs.length ≤ 1024) (hk : 2 * fs.length + 60 ≤ k) :
    ∃ s L' F, f93 k l L = some (.ret (.slice s.a s.n s.c) L') ∧ WS L' s ((lensOf fs).map iV) 3 F ∧ Step [] L F L' := by
  obtain ⟨k, rfl⟩ : ∃ k', k = k' + 1 := ⟨k - 1, by omega⟩
  have hn := hl.len
  simp only [List.length_map] at hn
  rw [f93_eq]
  simp only [bytes3, hn, room_ok (n := fs.length) (b := 8) (by omega) (by omega), when_true, Int.toNat_natCast]
  -- the row of lengths
  have hw := WS.made (L := L) (n := fs.length) (v := Value.int .i64 0) (e := 3)
  have s0 := Step.new [] L (LBlk.cells (List.flatten (List.replicate fs.length [Value.int .i64 0])) 3 false 0)
  generalize L ++ [LBlk.cells (List.flatten (List.replicate fs.length [Value.int .i64 0])) 3 false 0] = M0 at *
  have hl0 := hl.mono (s0.others hl.within (none_apart _))
  have ap0 : Apart [L.length] A := s0.apart hl.within (none_apart _)
  have hlt0 : L.length < M0.length := hw.within L.length (by simp)
  -- its box
  have hbn : (M0 ++ [LBlk.cells [Value.slice none 0 0] 49 false 0])[M0.length]? = some (.cells [Value.slice none 0 0] 49 false 0) := get_new
  rw [stores_all hbn (news := [Value.slice (some ⟨L.length, 0, none⟩) fs.length fs.length]) rfl]
  simp only [obind_some]
  have b0 := get_set_self (x := LBlk.cells [Value.slice (some ⟨L.length, 0, none⟩) fs.length fs.length] 49 false 0) hbn
  have s1 : Step [] M0 [M0.length] ((M0 ++ [LBlk.cells [Value.slice none 0 0] 49 false 0]).set M0.length (.cells [Value.slice (some ⟨L.length, 0, none⟩) fs.length fs.length] 49 false 0)) := (Step.new [] M0 _).trans (.set _ (by simp))
  generalize (M0 ++ [LBlk.cells [Value.slice none 0 0] 49 false 0]).set M0.length (.cells [Value.slice (some ⟨L.length, 0, none⟩) fs.length fs.length] 49 false 0) = L1 at *
  have hl1 := hl0.mono (s1.others hl0.within (none_apart _))
  have hw1 := hw.mono (s1.others hw.within (none_apart _))
  have hlt1 := get_lt b0
  -- the forest's boxes
  have p1 : (L1 ++ [LBlk.cells [Value.slice none 0 0] 155 false 0])[L1.length]? = some (.cells [Value.slice none 0 0] 155 false 0) := get_new
  have s2 := Step.new [] L1 (LBlk.cells [Value.slice none 0 0] 155 false 0)
  generalize L1 ++ [LBlk.cells [Value.slice none 0 0] 155 false 0] = M2 at *
  have p2 : (M2 ++ [LBlk.cells [Value.slice none 0 0] 49 false 0])[M2.length]? = some (.cells [Value.slice none 0 0] 49 false 0) := get_new
  have s3 := Step.new [] M2 (LBlk.cells [Value.slice none 0 0] 49 false 0)
  generalize M2 ++ [LBlk.cells [Value.slice none 0 0] 49 false 0] = M3 at *
  have hlt2 := get_lt p1
  have p13 : M3[L1.length]? = some (.cells [Value.slice none 0 0] 155 false 0) := by rw [s3.keep _ hlt2 (by simp), p1]
  have hl3 := (hl1.mono (s2.others hl1.within (none_apart _))).mono (s3.others (s2.within hl1.within) (none_apart _))
  have hw3 := (hw1.mono (s2.others hw1.within (none_apart _))).mono (s3.others (s2.within hw1.within) (none_apart _))
  have b03 : M3[M0.length]? = some (.cells [Value.slice (some ⟨L.length, 0, none⟩) fs.length fs.length] 49 false 0) := by rw [s3.keep _ (Nat.lt_of_lt_of_le hlt1 s2.len) (by simp), s2.keep _ hlt1 (by simp), b0]
  have hF : Forest M3 L1.length M2.length [] (List.range ([] : List Tri).length) (leavesFrom 0 (fs.take 0)) [L1.length, M2.length] :=
    ⟨⟨none, 0, 0⟩, ⟨none, 0, 0⟩, [], [], p13, p2, OZ.nil _ _ (by omega), OP.nil _ _, by omega, by simp, by simp, by simp, by simp, none_apart _, rfl, rfl, fun i k t h => by simp at h⟩
  have e02 := s2.len
  have e01 := s1.len
  have apU : Apart [L1.length, M2.length] (M0.length :: L.length :: A) := by
    intro i hi hj
    simp only [List.mem_cons, List.not_mem_nil, or_false] at hi hj
    rcases hj with rfl | rfl | hj
    · omega
    · omega
    · have := hl.within i hj; omega
  have wU : Within (M0.length :: L.length :: A) M3 := by
    intro i hi
    simp only [List.mem_cons] at hi
    have := s3.len
    rcases hi with rfl | rfl | hi
    · omega
    · omega
    · have := hl.within i hi; omega
  have apGA : Apart [L1.length, M2.length] A := fun i hi hj => apU i hi (by simp [hj])
  obtain ⟨ns, G, L4, c1, c2, c3, c4⟩ := collect (k := k) (r0 := M0.length) hn (by omega) fs.length 0 k [] [L1.length, M2.length] M3 (by omega) (by omega) hF rfl hl3 apGA
  have apG := c4.apart wU apU
  have b04 : L4[M0.length]? = some (.cells [Value.slice (some ⟨L.length, 0, none⟩) fs.length fs.length] 49 false 0) := by rw [c4.others wU apU _ (by simp), b03]
  have hw4 := hw3.mono (c4.others hw3.within fun i hi hj => apU i hi (by simp at hj; simp [hj]))
  have hll := leavesFrom_length fs 0
  have h0G : M0.length ∉ G := fun h => apG _ h (by simp)
  have hGo : Apart G [L.length] := fun i hi hj => apG i hi (by simp at hj; simp [hj])
  have h0o : M0.length ∉ [L.length] := by simp; omega
  have stA : Step [] L (L.length :: [M0.length, L1.length, M2.length]) M3 := by
    refine ⟨by have := s0.len; have := s3.len; omega, fun i hi _ => ?_, fun i hi => ?_⟩
    · have := s0.len
      rw [s3.keep i (by omega) (by simp), s2.keep i (by omega) (by simp), s1.keep i (by omega) (by simp), s0.keep i hi (by simp)]
    · have := s0.len
      simp at hi
      exact .inr (by omega)
  have stB : ∀ {L' : LHeap}, Step (L.length :: G) L4 [L.length] L' → Step [] L [L.length] L' := fun {L'} h => by
    have q1 : Step [] L (L.length :: [L1.length, M2.length]) M3 := stA.less fun i hi => .inl (by simp at hi ⊢; omega)
    have q2 : Step (L.length :: [L1.length, M2.length]) M3 (L.length :: G) L4 := by
      refine ⟨c4.len, fun i hi hn => c4.keep i hi (fun h => hn (List.mem_cons_of_mem _ h)), fun i hi => ?_⟩
      rcases List.mem_cons.1 hi with rfl | hi
      · exact .inl (by simp)
      · exact (c4.foot i hi).imp (List.mem_cons_of_mem _) id
    exact (q1.trans q2).trans h
  rw [show ((0 : Nat) : Int) = 0 from rfl] at c1
  rw [hn] at c1
  rw [c1]
  obtain ⟨j, hj⟩ : ∃ j, k - fs.length = j + 1 := ⟨k - fs.length - 1, by omega⟩
  rw [hj, f93_l5_eq, decide_eq_false (by omega)]
  have hF' := c2
  obtain ⟨sa, sp, Ga, Go, g1, g2, g3, g4, g5, g6, g7, g8, g9, g10, hGe, g11, g12⟩ := c2
  have hsp : sp.n = (leavesFrom 0 fs).length := by have := g4.rd.len; simp at this; omega
  have d2 : cell L4 ⟨M2.length, 0, none⟩ = some (.slice sp.a sp.n sp.c) := by rw [cell_of g2]; rfl
  simp only [lif_false, d2, Option.bind_some, asSl_slice, obind_some, hsp]
  have hrep : List.replicate fs.length (Value.int .i64 0) = (List.replicate fs.length (0 : Int)).map iV := by simp [iV]
  rw [hrep] at hw4
  have hsym : ∀ t ∈ leavesFrom 0 fs, ∀ i ∈ t.syms, i < fs.length := fun t ht i hi => by
    obtain ⟨q, hq, rfl, _⟩ := leavesFrom_leaf ht
    simp [HT.syms] at hi
    omega
  by_cases hone : (leavesFrom 0 fs).length = 1
  · obtain ⟨t, ht⟩ := List.length_eq_one_iff.1 hone
    obtain ⟨q, hq, htq, _⟩ := leavesFrom_leaf (show t ∈ leavesFrom 0 fs by rw [ht]; simp)
    have hn0 : ns[0]? = some (((fs.getD q 0).toNat : Int), -1, ((0 + q : Nat) : Int)) := by
      have := g12 0 0 t (by rw [List.getElem?_eq_getElem (by simp; omega)]; simp) (by rw [ht]; rfl)
      rw [htq] at this
      exact this
    obtain ⟨_, _, w3⟩ := triCells_get hn0
    have hsn : sa.n = ns.length := by have := g3.1; simp at this; omega
    obtain ⟨c, i1, i2⟩ := g3.get (i := 0) (by omega)
    have w3' := (i2 L4 (fun _ _ => rfl) (0 * 3 + 2)).trans w3
    have d1 : cell L4 ⟨L1.length, 0, none⟩ = some (.slice sa.a sa.n sa.c) := by rw [cell_of g1]; rfl
    have d0 : cell L4 ⟨M0.length, 0, none⟩ = some (Value.slice (some ⟨L.length, 0, none⟩) fs.length fs.length) := by rw [cell_of b04]; rfl
    obtain ⟨a, L5, e1, e2, e3, e4⟩ := hw4.put (i := 0 + q) (by simp; omega) (iV 1)
    have d05 : cell L5 ⟨M0.length, 0, none⟩ = some (Value.slice (some ⟨L.length, 0, none⟩) fs.length fs.length) := by rw [cell_of ((e4.keep _ (get_lt b04) h0o).trans b04)]; rfl
    refine ⟨⟨some ⟨L.length, 0, none⟩, fs.length, fs.length⟩, L5, [L.length], ?_, ?_, stB (e4.mono fun i hi => by simp at hi; simp [hi])⟩
    · rw [hone, show (((1 : Nat) : Int) == 1) = true from rfl]
      have i1 : idx sa 0 3 = some ⟨c, 0 * 3, none⟩ := i1
      have e2 : stores L4 a [Value.int .i64 1] = some L5 := e2
      simp only [lif_true, d0, d1, Option.bind_some, asSl_slice, obind_some, i1, mk_add, w3', iV, asI_int, e1, e2, d05]
    · rw [lensOf_one ht, htq]
      simp only [HT.lay]
      rw [List.map_set]
      exact e3
  · rw [show (((leavesFrom 0 fs).length : Int) == 1) = false by simp; omega]
    simp only [lif_false]
    by_cases hnil : leavesFrom 0 fs = []
    · have hns : ns = [] := List.eq_nil_of_length_eq_zero (by rw [c3, hnil]; rfl)
      obtain ⟨j', hj'⟩ : ∃ j', k = j' + 1 := ⟨k - 1, by omega⟩
      obtain ⟨L5, e1, e2, e3⟩ := finish (k := k) (so := ⟨some ⟨L.length, 0, none⟩, fs.length, fs.length⟩) hF' (by rw [hnil]; simp) (by rw [hns]; simp) (fun _ => hns) (fun t ht => by rw [hnil] at ht; cases ht) b04 hw4 h0G h0o hGo j'
      rw [← hj'] at e1
      refine ⟨_, L5, [L.length], e1, ?_, stB (e3.mono fun i hi => by simp at hi; simp [hi])⟩
      rw [lensOf_nil hnil]
      rw [hnil] at e2
      exact e2
    · obtain ⟨m, hm⟩ : ∃ m, (leavesFrom 0 fs).length = m + 2 := by
        have : (leavesFrom 0 fs).length ≠ 0 := fun h => hnil (List.eq_nil_of_length_eq_zero h)
        exact ⟨(leavesFrom 0 fs).length - 2, by omega⟩
      have htot : total (leavesFrom 0 fs) < 2 ^ 60 := by have := leaves_total hf 0; omega
      have hlast : ∃ t, (leavesFrom 0 fs).getLast? = some t ∧ NR ns (ns.length - 1) t := by
        have hlt : (leavesFrom 0 fs).length - 1 < (leavesFrom 0 fs).length := by omega
        refine ⟨(leavesFrom 0 fs)[(leavesFrom 0 fs).length - 1], by rw [List.getLast?_eq_getElem?, List.getElem?_eq_getElem hlt], ?_⟩
        refine g12 ((leavesFrom 0 fs).length - 1) _ _ ?_ (List.getElem?_eq_getElem hlt)
        rw [List.getElem?_eq_getElem (by simp; omega)]
        simp
        omega
      obtain ⟨ns', ks', G2, L5, m1, m2, m3, m4, m5⟩ := merge (k := k) (r0 := M0.length) (m + 1) k ns (List.range ns.length) (leavesFrom 0 fs) G L4 (by omega) (by omega) hF' (by omega) (by omega) htot hlast
      have hj1 := joinAll_length (m + 1) (leavesFrom 0 fs) (by omega)
      obtain ⟨t, ht⟩ := List.length_eq_one_iff.1 hj1
      have wU4 : Within (M0.length :: L.length :: A) L4 := c4.within wU
      have apG2 := m3.apart wU4 apG
      have b05 : L5[M0.length]? = some (.cells [Value.slice (some ⟨L.length, 0, none⟩) fs.length fs.length] 49 false 0) := by rw [m3.others wU4 apG _ (by simp), b04]
      have hw5 := hw4.mono (m3.others hw4.within hGo)
      obtain ⟨t', ht', hnr⟩ := m4
      rw [ht] at ht'
      simp at ht'
      subst ht'
      have hsy : ∀ i ∈ t.syms, i < fs.length := joinAll_inv (p := fun t => ∀ i ∈ t.syms, i < fs.length) (fun a b ha hb i hi => (List.mem_append.1 hi).elim (ha i) (hb i)) (m + 1) _ (by omega) hsym t (by rw [ht]; simp)
      have hsl : t.syms.length = (leavesFrom 0 fs).length := by
        have := joinAll_sum (f := fun t => t.syms.length) (fun a b => by simp [HT.syms]) (m + 1) (leavesFrom 0 fs) (by omega)
        rw [ht, leaves_syms] at this
        simpa using this
      have hh := height_syms t
      obtain ⟨j', hj'⟩ : ∃ j', k - (m + 1) = j' + 1 := ⟨k - (m + 1) - 1, by omega⟩
      have hnsl : ns'.length < 2 ^ 40 := by omega
      obtain ⟨L6, e1, e2, e3⟩ := finish (k := k) (so := ⟨some ⟨L.length, 0, none⟩, fs.length, fs.length⟩) m2 (by omega) hnsl (fun h => by rw [ht] at h; cases h)
        (fun u hu => by rw [ht] at hu; cases hu; exact ⟨hnr, by omega, by omega, by simpa using hsy⟩) b05 hw5 (fun h => apG2 _ h (by simp)) h0o (fun i hi hj => apG2 i hi (by simp at hj; simp [hj])) j'
      rw [m1, hj', e1]
      refine ⟨_, L6, [L.length], rfl, ?_, ?_⟩
      · rw [lensOf_more hm ht]
        rw [ht] at e2
        exact e2
      · have q0 : Step (L.length :: G) L4 (L.length :: G2) L5 := by
          refine ⟨m3.len, fun i hi hn => m3.keep i hi (fun h => hn (List.mem_cons_of_mem _ h)), fun i hi => ?_⟩
          rcases List.mem_cons.1 hi with rfl | hi
          · exact .inl (by simp)
          · exact (m3.foot i hi).imp (List.mem_cons_of_mem _) id
        exact stB (q0.trans (e3.mono fun i hi => by simp at hi; simp [hi]))
end Go.Proofs.Ytflhogapjmdkaaa.X
end

section
set_option maxRecDepth 100000
set_option linter.unusedVariables false
namespace Go.Proofs.Ytflhogapjmdkaaa.X
open Go Go.Rlm
def bad (f : Int) : Bool := decide (f < 0) || decide (f > 1073741824)
def fnBad : Value := .func (.func 92) #[] #[]
theorem bad_app (k : Nat) (f : Int) (L : LHeap) : lapp (lcall Proofs.Try.prog T (k + 1)) fnBad [.int .i64 f] L = some (.ret (.bool (bad f)) L) := by
  rw [fnBad, lapp_plain (g := 92) rfl]
  show f92 (k + 1) f L = _
  rw [f92_eq]
  unfold bad
  by_cases h : f < 0
  · rw [decide_eq_true h]; rfl
  · rw [decide_eq_false h]; rfl
theorem index_loop {k : Nat} {l : Sl} {fs : List Int} {A : List Nat} {L : LHeap} (hl : Rd L l (fs.map iV) A) (hs : fs.length < 2 ^ 60) :
    ∀ (m i j : Nat), i + m = fs.length → m < j → ∃ n : Int, f100_l2 (k + 1) j l fnBad (l.n : Int) (i : Int) L = some (.ret (.int .i64 n) L) ∧ decide (n ≥ 0) = (fs.drop i).any bad := by
  have hn := hl.len
  simp only [List.length_map] at hn
  intro m
  induction m with
  | zero =>
    intro i j hi hj
    obtain ⟨j, rfl⟩ : ∃ j', j = j' + 1 := ⟨j - 1, by omega⟩
    refine ⟨-1, ?_, by rw [List.drop_eq_nil_of_le (by omega)]; rfl⟩
    rw [f100_l2_eq, decide_eq_false (by omega)]
    rfl
  | succ m ih =>
    intro i j hi hj
    obtain ⟨j, rfl⟩ : ∃ j', j = j' + 1 := ⟨j - 1, by omega⟩
    obtain ⟨a, a1, a2⟩ := hl.here (i := i) (v := iV fs[i]) (by simp [show i < fs.length by omega])
    rw [f100_l2_eq, decide_eq_true (by omega), List.drop_eq_getElem_cons (show i < fs.length by omega), List.any_cons]
    simp only [lif_true, a1, a2, iV, obind_some, Option.bind_some, asI_int, bad_app, lbind_ret, asB_bool]
    rw [wI64 (n := (i : Int) + 1) (by omega) (by omega)]
    cases hb : bad fs[i]
    · simpa using ih (i + 1) j (by omega) (by omega)
    · exact ⟨(i : Int), rfl, by simp⟩
theorem contains_ok {k : Nat} {l : Sl} {fs : List Int} {A : List Nat} {L : LHeap} (hl : Rd L l (fs.map iV) A) (hs : fs.length < 2 ^ 60) (hk : fs.length + 10 ≤ k) :
    f91 k l fnBad L = some (.ret (.bool (fs.any bad)) L) := by
  obtain ⟨k, rfl⟩ : ∃ k', k = k' + 3 := ⟨k - 3, by omega⟩
  obtain ⟨n, h1, h2⟩ := index_loop (k := k) hl hs fs.length 0 (k + 1) (by omega) (by omega)
  rw [f91_eq, f100_eq]
  have h1 : f100_l2 (k + 1) (k + 1) l fnBad (l.n : Int) 0 L = some (.ret (.int .i64 n) L) := h1
  simp only [h1, lbind_ret, asI_int, obind_some]
  rw [h2, List.drop_zero]
theorem clone_ok {k : Nat} {l : Sl} {fs : List Int} {A : List Nat} {L : LHeap} (hl : Rd L l (fs.map iV) A) (hs : fs.length ≤ 2 ^ 40) (hk : 1 ≤ k) :
    ∃ s L' F, f82 k l L = some (.ret (.slice s.a s.n s.c) L') ∧ WS L' s (fs.map iV) 3 F ∧ Step [] L F L' := by
  obtain ⟨k, rfl⟩ : ∃ k', k = k' + 1 := ⟨k - 1, by omega⟩
  have hn := hl.len
  rw [f82_eq]
  cases ha : l.a with
  | none =>
    have hv : fs.map iV = [] := by
      obtain ⟨h1, ⟨h2, _⟩ | ⟨c, o, cs, e, ro, sp, h2, _⟩⟩ := hl
      · exact h2
      · rw [ha] at h2; cases h2
    exact ⟨⟨none, 0, 0⟩, L, [], rfl, .inl ⟨rfl, hv, rfl⟩, .refl _ _⟩
  | some a =>
    have hl' := (hl.mono fun i hi => get_push (X := [LBlk.cells [] 3 false 0]) (hl.within i hi)).src
    rw [ha] at hl'
    obtain ⟨s', L', F', c1, c2, c3, c4⟩ := copy_ok (L := L) (vs := fs.map iV) 3 8 (by simp; omega) (by simp; omega)
    rw [← hn] at c1
    refine ⟨s', L', F', ?_, c2, c3⟩
    simp only [Option.isNone_some, lif_false, size3, bytes3, hl', obind_some, c1]
theorem max_loop {k : Nat} {l : Sl} {zs : List Int} {A : List Nat} {L : LHeap} (hl : Rd L l (zs.map iV) A) (hs : zs.length < 2 ^ 60) :
    ∀ (m i j : Nat) (x : Int), i + m = zs.length → m < j → ∃ y : Int, f94_l5 k j l x (i : Int) L = some (.ret (.int .i64 y) L) ∧ (y ≤ 15 ↔ x ≤ 15 ∧ ∀ z ∈ zs.drop i, z ≤ 15) := by
  have hn := hl.len
  simp only [List.length_map] at hn
  intro m
  induction m with
  | zero =>
    intro i j x hi hj
    obtain ⟨j, rfl⟩ : ∃ j', j = j' + 1 := ⟨j - 1, by omega⟩
    refine ⟨x, ?_, by rw [List.drop_eq_nil_of_le (by omega)]; simp⟩
    rw [f94_l5_eq, decide_eq_false (by omega)]
    rfl
  | succ m ih =>
    intro i j x hi hj
    obtain ⟨j, rfl⟩ : ∃ j', j = j' + 1 := ⟨j - 1, by omega⟩
    obtain ⟨a, a1, a2⟩ := hl.here (i := i) (v := iV zs[i]) (by simp [show i < zs.length by omega])
    obtain ⟨y, h1, h2⟩ := ih (i + 1) j (if zs[i] > x then zs[i] else x) (by omega) (by omega)
    refine ⟨y, ?_, ?_⟩
    · rw [f94_l5_eq, decide_eq_true (by omega)]
      simp only [lif_true, a1, a2, iV, obind_some, Option.bind_some, asI_int, if_true]
      rw [wI64 (n := (i : Int) + 1) (by omega) (by omega)]
      exact h1
    · have hd : zs.drop i = zs[i] :: zs.drop (i + 1) := List.drop_eq_getElem_cons (by omega)
      rw [h2, hd]
      simp only [List.mem_cons, forall_eq_or_imp]
      by_cases hgt : zs[i] > x
      · rw [if_pos hgt]
        exact ⟨fun ⟨p, q⟩ => ⟨by omega, p, q⟩, fun ⟨p, q, r⟩ => ⟨q, r⟩⟩
      · rw [if_neg hgt]
        exact ⟨fun ⟨p, q⟩ => ⟨p, by omega, q⟩, fun ⟨p, q, r⟩ => ⟨p, r⟩⟩
theorem max_ok {k : Nat} {l : Sl} {zs : List Int} {A : List Nat} {L : LHeap} (hl : Rd L l (zs.map iV) A) (hs : zs.length < 2 ^ 60) (h0 : 0 < zs.length) (hk : zs.length + 10 ≤ k) :
    ∃ y : Int, f94 k l L = some (.ret (.int .i64 y) L) ∧ decide (y ≤ 15) = fits zs := by
  obtain ⟨k, rfl⟩ : ∃ k', k = k' + 1 := ⟨k - 1, by omega⟩
  have hn := hl.len
  simp only [List.length_map] at hn
  obtain ⟨a, a1, a2⟩ := hl.here (i := 0) (v := iV zs[0]) (by simp [h0])
  obtain ⟨y, h1, h2⟩ := max_loop (k := k) hl hs (zs.length - 1) 1 k zs[0] (by omega) (by omega)
  refine ⟨y, ?_, ?_⟩
  · rw [f94_eq, decide_eq_false (by omega)]
    have a1 : idx l 0 1 = some a := a1
    simp only [lif_false, a1, a2, iV, obind_some, Option.bind_some, asI_int]
    exact h1
  · have hd : zs = zs[0] :: zs.drop 1 := by
      have := List.drop_eq_getElem_cons (l := zs) (i := 0) h0
      simpa using this
    rw [Bool.eq_iff_iff, decide_eq_true_eq, h2, fits_iff]
    constructor
    · rintro ⟨p, q⟩ z hz
      rw [hd] at hz
      rcases List.mem_cons.1 hz with rfl | hz
      · exact p
      · exact q z hz
    · exact fun p => ⟨p _ (List.getElem_mem h0), fun z hz => p z (List.mem_of_mem_drop hz)⟩
theorem halve_loop {k j4 : Nat} {l : Sl} {fs : List Int} (hf : ∀ f ∈ fs, 0 ≤ f ∧ f ≤ 1073741824) (hs : fs.length < 2 ^ 60) :
    ∀ (m i j : Nat) (F : List Nat) (L : LHeap), i + m = fs.length → m < j → WS L l ((halve (fs.take i) ++ fs.drop i).map iV) 3 F →
      ∃ L', f75_l8 k j4 j l (fs.length : Int) (i : Int) L = f75_l4 k j4 l L' ∧ WS L' l ((halve fs).map iV) 3 F ∧ Step F L F L' := by
  intro m
  induction m with
  | zero =>
    intro i j F L hi hj hw
    obtain ⟨j, rfl⟩ : ∃ j', j = j' + 1 := ⟨j - 1, by omega⟩
    rw [List.take_of_length_le (by omega), List.drop_eq_nil_of_le (by omega), List.append_nil] at hw
    refine ⟨L, ?_, hw, .refl _ _⟩
    rw [f75_l8_eq, decide_eq_false (by omega)]
    rfl
  | succ m ih =>
    intro i j F L hi hj hw
    obtain ⟨j, rfl⟩ : ∃ j', j = j' + 1 := ⟨j - 1, by omega⟩
    have hiz : i < fs.length := by omega
    obtain ⟨f1, f2⟩ := hf _ (List.getElem_mem hiz)
    have hlen : (halve (fs.take i)).length = i := by rw [halve_length, List.length_take]; omega
    have hget : ((halve (fs.take i) ++ fs.drop i).map iV)[i]? = some (iV fs[i]) := by
      rw [List.getElem?_map, List.getElem?_append_right (by omega), hlen, Nat.sub_self, List.getElem?_drop, Nat.add_zero, List.getElem?_eq_getElem hiz]; rfl
    obtain ⟨a, a1, a2⟩ := hw.rd.here hget
    obtain ⟨a', L1, b1, b2, b3, b4⟩ := hw.put (i := i) (get_lt hget) (iV ((fs[i] + 1).tdiv 2))
    rw [← List.map_set] at b3
    have hset : (halve (fs.take i) ++ fs.drop i).set i ((fs[i] + 1).tdiv 2) = halve (fs.take (i + 1)) ++ fs.drop (i + 1) := by
      rw [List.set_append_right _ _ (by omega), hlen, Nat.sub_self, List.drop_eq_getElem_cons hiz, List.set_cons_zero, take_succ_int hiz]
      simp only [halve, List.map_append, List.map_cons, List.map_nil, List.append_assoc, List.singleton_append]
    rw [hset] at b3
    obtain ⟨L2, c1, c2, c3⟩ := ih (i + 1) j F L1 (by omega) (by omega) b3
    refine ⟨L2, ?_, c2, b4.trans c3⟩
    rw [← c1, f75_l8_eq, decide_eq_true (by omega)]
    simp only [lif_true, a1, a2, iV, obind_some, Option.bind_some, asI_int]
    have e1 : IntKind.wrap .i64 (Int.tdiv (IntKind.wrap .i64 (fs[i] + 1)) 2) = (fs[i] + 1).tdiv 2 := by
      rw [wI64 (n := fs[i] + 1) (by omega) (by omega), Int.tdiv_eq_ediv_of_nonneg (by omega), wI64] <;> omega
    rw [e1, wI64 (n := (i : Int) + 1) (by omega) (by omega)]
    have b2 : stores L a' [Value.int .i64 ((fs[i] + 1).tdiv 2)] = some L1 := b2
    obtain rfl : a = a' := Option.some.inj (a1.symm.trans b1)
    simp only [b2, obind_some]
    rfl
theorem lengths_loop {k : Nat} {l : Sl} : ∀ (n j : Nat) (fs : List Int) (F : List Nat) (L : LHeap), n < j → n ≤ 30 → (∀ f ∈ fs, 0 ≤ f ∧ f ≤ 2 ^ n) → fs.length ≤ 512 → 2 * fs.length + 70 ≤ k → WS L l (fs.map iV) 3 F →
    ∃ s L' F', f75_l4 k j l L = some (.ret (.tuple #[.slice s.a s.n s.c, .int .i64 0]) L') ∧ WS L' s ((lensLoop n fs).map iV) 3 F' ∧ Step F L F' L' := by
  intro n
  have main : ∀ (n j : Nat) (fs : List Int) (F : List Nat) (L : LHeap), n ≤ 30 → (∀ f ∈ fs, 0 ≤ f ∧ f ≤ 2 ^ n) → fs.length ≤ 512 → 2 * fs.length + 70 ≤ k → WS L l (fs.map iV) 3 F →
      (fits (lensOf fs) = true → ∃ s L' F', f75_l4 k (j + 1) l L = some (.ret (.tuple #[.slice s.a s.n s.c, .int .i64 0]) L') ∧ WS L' s ((lensOf fs).map iV) 3 F' ∧ Step F L F' L') ∧
      (fits (lensOf fs) = false → ∃ L', f75_l4 k (j + 1) l L = f75_l4 k j l L' ∧ WS L' l ((halve fs).map iV) 3 F ∧ Step F L F L') := by
    intro n j fs F L hn30 hf hl hk hw
    have hln := hw.rd.len
    simp only [List.length_map] at hln
    have hb : (2 : Int) ^ n ≤ 2 ^ 30 := by
      have : (2 : Nat) ^ n ≤ 2 ^ 30 := Nat.pow_le_pow_right (by omega) hn30
      exact_mod_cast this
    have hf' : ∀ f ∈ fs, 0 ≤ f ∧ f ≤ 1073741824 := fun f hff => by have := hf f hff; omega
    obtain ⟨s, L1, F1, a1, a2, a3⟩ := once_ok (k := k) hw.rd (fun f hff => (hf' f hff).2) (by omega) (by omega)
    have hsn := a2.rd.len
    simp only [List.length_map, lensOf_length] at hsn
    have hw1 : WS L1 l (fs.map iV) 3 F := hw.mono (a3.others hw.within (none_apart _))
    have st : Step F L F1 L1 := a3.mono fun i hi => by simp at hi
    rw [f75_l4_eq]
    simp only [a1, lbind_ret, asSl_slice, obind_some]
    by_cases h0 : fs.length = 0
    · have hnil : fs = [] := List.eq_nil_of_length_eq_zero h0
      refine ⟨fun _ => ⟨s, L1, F1, ?_, a2, st⟩, fun h => ?_⟩
      · rw [show ((s.n : Int) == 0) = true by simp; omega]; rfl
      · subst hnil
        exact absurd h (by decide)
    · rw [show ((s.n : Int) == 0) = false by simp; omega]
      obtain ⟨y, b1, b2⟩ := max_ok (k := k) a2.rd (by rw [lensOf_length]; omega) (by rw [lensOf_length]; omega) (by rw [lensOf_length]; omega)
      simp only [lif_false, b1, lbind_ret, asI_int, obind_some, b2]
      refine ⟨fun h => ⟨s, L1, F1, by rw [h]; rfl, a2, st⟩, fun h => ?_⟩
      rw [h]
      obtain ⟨L2, c1, c2, c3⟩ := halve_loop (k := k) (j4 := j) (l := l) hf' (by omega) fs.length 0 k F L1 (by omega) (by omega) (by simpa [halve] using hw1)
      refine ⟨L2, ?_, c2, ?_⟩
      · rw [← c1, hln]; rfl
      · exact (st.less (G := F) fun i hi => .inr hi).trans c3
  induction n with
  | zero =>
    intro j fs F L hj hn30 hf hl hk hw
    obtain ⟨j, rfl⟩ : ∃ j', j = j' + 1 := ⟨j - 1, by omega⟩
    exact (main 0 j fs F L hn30 hf hl hk hw).1 (fits_ones (fun f hff => by have := (hf f hff).2; simpa using this) hl)
  | succ n ih =>
    intro j fs F L hj hn30 hf hl hk hw
    obtain ⟨j, rfl⟩ : ∃ j', j = j' + 1 := ⟨j - 1, by omega⟩
    obtain ⟨m1, m2⟩ := main (n + 1) j fs F L hn30 hf hl hk hw
    simp only [lensLoop]
    cases hfit : fits (lensOf fs) with
    | true => simpa using m1 hfit
    | false =>
      obtain ⟨L1, c1, c2, c3⟩ := m2 hfit
      obtain ⟨s, L2, F2, d1, d2, d3⟩ := ih j (halve fs) F L1 (by omega) (by omega) (halve_mem hf) (by rw [halve_length]; exact hl) (by rw [halve_length]; exact hk) c2
      exact ⟨s, L2, F2, by rw [c1, d1], by simpa using d2, c3.trans d3⟩
def lenOk (fs : List Int) : Bool := decide (fs.length ≤ 512) && !fs.any bad
def lenRes (fs : List Int) : List Int := if lenOk fs then lengthsOf fs else []
def lenErr (fs : List Int) : Int := if lenOk fs then 0 else 1
theorem lenOk_mem {fs : List Int} (h : lenOk fs = true) : fs.length ≤ 512 ∧ ∀ f ∈ fs, 0 ≤ f ∧ f ≤ 1073741824 := by
  simp only [lenOk, Bool.and_eq_true, decide_eq_true_eq, Bool.not_eq_true', List.any_eq_false] at h
  refine ⟨h.1, fun f hf => ?_⟩
  have := h.2 f hf
  simp only [bad, Bool.or_eq_true, decide_eq_true_eq] at this
  omega
theorem lengths_ok {k : Nat} {l : Sl} {fs : List Int} {A : List Nat} {L : LHeap} (hl : Rd L l (fs.map iV) A) (hs : fs.length < 2 ^ 40) (hk : 2 * fs.length + 80 ≤ k) :
    ∃ s L' F, f75 k l L = some (.ret (.tuple #[.slice s.a s.n s.c, .int .i64 (lenErr fs)]) L') ∧ WS L' s ((lenRes fs).map iV) 3 F ∧ Step [] L F L' := by
  obtain ⟨k, rfl⟩ : ∃ k', k = k' + 1 := ⟨k - 1, by omega⟩
  have hn := hl.len
  simp only [List.length_map] at hn
  rw [f75_eq]
  by_cases h512 : fs.length > 512
  · have hno : lenOk fs = false := by simp [lenOk, show ¬ fs.length ≤ 512 by omega]
    rw [decide_eq_true (by omega)]
    exact ⟨⟨none, 0, 0⟩, L, [], by rw [lenErr, hno]; rfl, .inl ⟨rfl, by rw [lenRes, hno]; rfl, rfl⟩, .refl _ _⟩
  rw [decide_eq_false (by omega)]
  have hc := contains_ok (k := k) hl (by omega) (by omega)
  have hc : f91 k l (.func (.func 92) #[] #[]) L = some (.ret (.bool (fs.any bad)) L) := hc
  simp only [lif_false, hc, lbind_ret, asB_bool, obind_some]
  cases hb : fs.any bad with
  | true =>
    have hno : lenOk fs = false := by simp [lenOk, hb]
    exact ⟨⟨none, 0, 0⟩, L, [], by rw [lenErr, hno]; rfl, .inl ⟨rfl, by rw [lenRes, hno]; rfl, rfl⟩, .refl _ _⟩
  | false =>
    have hok : lenOk fs = true := by simp [lenOk, hb]; omega
    obtain ⟨_, hf⟩ := lenOk_mem hok
    obtain ⟨s1, L1, F1, c1, c2, c3⟩ := clone_ok (k := k) hl (by omega) (by omega)
    obtain ⟨s, L2, F2, d1, d2, d3⟩ := lengths_loop (k := k) 30 k fs F1 L1 (by omega) (by omega) (fun f hff => by have := hf f hff; omega) (by omega) (by omega) c2
    refine ⟨s, L2, F2, ?_, by rw [lenRes, hok]; exact d2, c3.trans d3⟩
    rw [lenErr, hok]
    simp only [lif_false, c1, lbind_ret, asSl_slice, obind_some]
    exact d1
end Go.Proofs.Ytflhogapjmdkaaa.X
end

section
set_option maxRecDepth 100000
set_option linter.unusedVariables false
namespace Go.Proofs.Ytflhogapjmdkaaa.X
open Go Go.Rlm
theorem cells87 : Program.cellsOf Proofs.Try.prog 125 = 16 := by kernel_rfl
def slV (s : Sl) : Value := .slice s.a s.n s.c
def coderCells (sl sc : Sl) (zs : List Int) (sy : Nat → Sl) : List Value := [slV sl, slV sc] ++ fcAll zs ++ (List.range 16).map fun n => slV (sy n)
@[simp] theorem coderCells_length (sl sc : Sl) (zs : List Int) (sy : Nat → Sl) : (coderCells sl sc zs sy).length = 34 := by simp [coderCells]
theorem coder_len (sl sc : Sl) (zs : List Int) (sy : Nat → Sl) : (coderCells sl sc zs sy)[0]? = some (slV sl) ∧ (coderCells sl sc zs sy)[1]? = some (slV sc) := ⟨rfl, rfl⟩
theorem coder_syms (sl sc : Sl) (zs : List Int) (sy : Nat → Sl) {n : Nat} (h : n < 16) : (coderCells sl sc zs sy)[18 + n]? = some (slV (sy n)) := by
  rw [coderCells, List.getElem?_append_right (by simp)]
  simp [h]
theorem coder_set (sl sc : Sl) (zs : List Int) (sy : Nat → Sl) {n : Nat} (h : n < 16) (s : Sl) : (coderCells sl sc zs sy).set (18 + n) (slV s) = coderCells sl sc zs (fun q => if q = n then s else sy q) := by
  rw [coderCells, coderCells, List.set_append_right _ _ (by simp)]
  congr 1
  have hl : 18 + n - ([slV sl, slV sc] ++ fcAll zs).length = n := by simp
  rw [hl]
  apply List.ext_getElem?
  intro q
  by_cases hq : q < 16
  · by_cases hn : n = q
    · subst hn
      rw [List.getElem?_set_self (by simpa using hq)]
      simp [hq]
    · rw [List.getElem?_set_ne hn]
      simp [hq, Ne.symm hn]
  · rw [List.getElem?_eq_none (by simp; omega), List.getElem?_eq_none (by simp; omega)]
/-- The symbols' rows: each its own. -/
def Rows (L : LHeap) (b : Nat) (U : List Nat) (zs : List Int) (i : Nat) (sy : Nat → Sl) (G : Nat → List Nat) : Prop :=
  (∀ n, n < 16 → OS L (sy n) ((symsTo zs i n).map kV) 3 (G n) ∧ b ∉ G n ∧ Apart (G n) U) ∧ ∀ n m, n < 16 → m < 16 → n ≠ m → Apart (G n) (G m)
theorem new_loop {k b : Nat} {l sl sc : Sl} {zs : List Int} {A U : List Nat} (hok : okLen zs = true) (hn : l.n = zs.length) (h512 : zs.length ≤ 512) (hbA : b ∉ A) (hAU : ∀ i ∈ A, i ∈ U) :
    ∀ (m i j : Nat) (sy : Nat → Sl) (G : Nat → List Nat) (L : LHeap), i + m = zs.length → m < j → L[b]? = some (.cells (coderCells sl sc zs sy) 128 false 0) → Rows L b U zs i sy G → Within U L → Rd L l (zs.map iV) A →
      ∃ sy' G' L', f63_l7 k j b l (l.n : Int) (i : Int) L = some (.ret (.tuple #[.pointer (some ⟨b, 0, none⟩), .int .i64 0]) L') ∧ L'[b]? = some (.cells (coderCells sl sc zs sy') 128 false 0) ∧ Rows L' b U zs zs.length sy' G' ∧
        L.length ≤ L'.length ∧ (∀ q, q < L.length → q ≠ b → (∀ n, n < 16 → q ∉ G n) → L'[q]? = L[q]?) ∧ ∀ n, n < 16 → ∀ q ∈ G' n, q ∈ G n ∨ L.length ≤ q := by
  intro m
  induction m with
  | zero =>
    intro i j sy G L hi hj hb hR hU hl
    obtain ⟨j, rfl⟩ : ∃ j', j = j' + 1 := ⟨j - 1, by omega⟩
    obtain rfl : i = zs.length := by omega
    refine ⟨sy, G, L, ?_, hb, hR, Nat.le_refl _, fun _ _ _ _ => rfl, fun n _ q hq => .inl hq⟩
    rw [f63_l7_eq, decide_eq_false (by omega)]
    rfl
  | succ m ih =>
    intro i j sy G L hi hj hb hR hU hl
    obtain ⟨j, rfl⟩ : ∃ j', j = j' + 1 := ⟨j - 1, by omega⟩
    have hiz : i < zs.length := by omega
    obtain ⟨a, a1, a2⟩ := hl.here (i := i) (v := iV zs[i]) (by simp [hiz])
    obtain ⟨z0, z1⟩ := okLen_mem hok (List.getElem_mem hiz)
    obtain ⟨z, hz⟩ : ∃ z : Nat, zs[i] = (z : Int) := ⟨zs[i].toNat, by omega⟩
    have hz16 : z < 16 := by omega
    obtain ⟨R1, R2⟩ := hR
    obtain ⟨ho, hbG, hGU⟩ := R1 z hz16
    have c1 : cell L ⟨b, 0 + 18 + z * 1, none⟩ = some (.slice (sy z).a (sy z).n (sy z).c) := by
      rw [cell_of hb, Nat.mul_one, show 0 + 18 + z = 18 + z by omega, coder_syms _ _ _ _ hz16]; rfl
    have c2 : ∀ X : LBlk, cell (L ++ [X]) ⟨b, 0 + 18 + z * 1, none⟩ = some (.slice (sy z).a (sy z).n (sy z).c) := fun X => by
      rw [cell_of (by rw [get_push (get_lt hb)]; exact hb), Nat.mul_one, show 0 + 18 + z = 18 + z by omega, coder_syms _ _ _ _ hz16]; rfl
    have hsl := symsTo_length_le zs i z
    obtain ⟨s', L1, G1, d1, d2, d3⟩ := (ho.mono (L' := L ++ [LBlk.cells [kV i] 3 false 0]) fun q hq => get_push (ho.within q hq)).app [kV i] 8 (by simp; omega) (by simp; omega)
    have st1 : Step (G z) L G1 L1 := (Step.push (G z) L _).trans d3
    have hb1 : L1[b]? = some (.cells (coderCells sl sc zs sy) 128 false 0) := by rw [st1.keep b (get_lt hb) hbG, hb]
    have hbG1 : b ∉ G1 := fun h => by rcases st1.foot b h with q | q; exact hbG q; have := get_lt hb; omega
    have hst : stores L1 ⟨b, 0 + 18 + z * 1, none⟩ [Value.slice s'.a s'.n s'.c] = some (L1.set b (.cells (coderCells sl sc zs (fun q => if q = z then s' else sy q)) 128 false 0)) := by
      rw [stores_of hb1 (by simp; omega), Nat.mul_one, show 0 + 18 + z = 18 + z by omega]
      have := coder_set sl sc zs sy hz16 s'
      simp only [setAll]
      rw [show Value.slice s'.a s'.n s'.c = slV s' from rfl, this]
    have hb2 := get_set_self (x := LBlk.cells (coderCells sl sc zs (fun q => if q = z then s' else sy q)) 128 false 0) hb1
    have st2 : Step [b] L1 [b] (L1.set b (.cells (coderCells sl sc zs (fun q => if q = z then s' else sy q)) 128 false 0)) := .set _ (by simp)
    generalize L1.set b (.cells (coderCells sl sc zs (fun q => if q = z then s' else sy q)) 128 false 0) = L2 at *
    have hAG : Apart (G z) A := fun q hq ha => hGU q hq (hAU q ha)
    have hl1 := hl.mono (st1.others hl.within hAG)
    have hl2 := hl1.mono (st2.others hl1.within (one_apart hbA))
    have hU1 : Within U L2 := st2.within (st1.within hU)
    have hR2 : Rows L2 b U zs (i + 1) (fun q => if q = z then s' else sy q) (fun q => if q = z then G1 else G q) := by
      refine ⟨fun n hn16 => ?_, fun n m hn hm hnm => ?_⟩
      · rw [symsTo_succ hiz]
        by_cases hnz : n = z
        · subst hnz
          simp only [if_true]
          rw [if_pos hz, List.map_append]
          refine ⟨d2.mono (st2.others d2.within (one_apart hbG1)), hbG1, st1.apart hU hGU⟩
        · simp only [if_neg hnz]
          obtain ⟨o1, o2, o3⟩ := R1 n hn16
          rw [if_neg (by omega), List.append_nil]
          have o11 := o1.mono (st1.others o1.within (R2 z n hz16 hn16 (Ne.symm hnz)))
          exact ⟨o11.mono (st2.others o11.within (one_apart o2)), o2, o3⟩
      · by_cases hnz : n = z
        · subst hnz
          simp only [if_true, if_neg (Ne.symm hnm)]
          exact st1.apart (R1 m hm).1.within (R2 n m hn hm hnm)
        · simp only [if_neg hnz]
          by_cases hmz : m = z
          · subst hmz
            simp only [if_true]
            exact (st1.apart (R1 n hn).1.within (R2 m n hm hn hnm.symm)).symm
          · simp only [if_neg hmz]
            exact R2 n m hn hm hnm
    obtain ⟨sy', G', L', e1, e2, e3, e4, e5, e6⟩ := ih (i + 1) j _ _ L2 (by omega) (by omega) hb2 hR2 hU1 hl2
    have hlen : L.length ≤ L2.length := Nat.le_trans st1.len st2.len
    refine ⟨sy', G', L', ?_, e2, e3, Nat.le_trans hlen e4, fun q hq hqb hqG => ?_, fun n hn16 q hq => ?_⟩
    · rw [f63_l7_eq, decide_eq_true (by omega)]
      simp only [kV] at d1
      have d1 : app (L ++ [LBlk.cells [Value.int .i64 (i : Int)] 3 false 0]) 3 1 8 (sy z) 1 [Value.int .i64 (i : Int)] = some (s', L1) := d1
      simp only [lif_true, a1, a2, iV, obind_some, Option.bind_some, asI_int, hz]
      rw [decide_eq_true (show (0 : Int) ≤ (z : Int) by omega), decide_eq_true (show (z : Int) < 16 by omega), wI64 (n := (i : Int) + 1) (by omega) (by omega)]
      simp only [when_true, Int.toNat_natCast, mk_add, c1, c2, Option.bind_some, asSl_slice, obind_some, same_self, size3, bytes3, src_new, d1, hst]
      exact e1
    · rw [e5 q (Nat.lt_of_lt_of_le hq hlen) hqb (fun n hn => ?_), st2.keep q (Nat.lt_of_lt_of_le hq st1.len) (by simpa using hqb), st1.keep q hq (hqG z hz16)]
      by_cases hnz : n = z
      · subst hnz
        simp only [if_true]
        intro h
        rcases st1.foot q h with h | h
        · exact hqG n hn h
        · omega
      · simp only [if_neg hnz]
        exact hqG n hn
    · rcases e6 n hn16 q hq with h | h
      · by_cases hnz : n = z
        · subst hnz
          simp only [if_true] at h
          exact st1.foot q h
        · simp only [if_neg hnz] at h
          exact .inl h
      · exact .inr (Nat.le_trans hlen h)
/-- A coder: at b, of these lengths; it stands in the blocks F. -/
def CO (L : LHeap) (b : Nat) (zs : List Int) (F : List Nat) : Prop :=
  ∃ (sl sc : Sl) (sy : Nat → Sl) (A1 A2 : List Nat) (A3 : Nat → List Nat), L[b]? = some (.cells (coderCells sl sc zs sy) 128 false 0) ∧ Rd L sl (zs.map iV) A1 ∧ Rd L sc ((codesOf zs).map uV) A2 ∧ (∀ n, n < 16 → Rd L (sy n) ((symsOf zs n).map kV) (A3 n)) ∧
    b ∈ F ∧ (∀ i ∈ A1, i ∈ F) ∧ (∀ i ∈ A2, i ∈ F) ∧ (∀ n, n < 16 → ∀ i ∈ A3 n, i ∈ F) ∧ Within F L
theorem CO.mono {L L' : LHeap} {b : Nat} {zs : List Int} {F : List Nat} (h : CO L b zs F) (hk : ∀ i ∈ F, L'[i]? = L[i]?) (hle : L.length ≤ L'.length) : CO L' b zs F := by
  obtain ⟨sl, sc, sy, A1, A2, A3, h1, h2, h3, h4, h5, h6, h7, h8, h9⟩ := h
  exact ⟨sl, sc, sy, A1, A2, A3, by rw [hk b h5, h1], h2.mono fun i hi => hk i (h6 i hi), h3.mono fun i hi => hk i (h7 i hi), fun n hn => (h4 n hn).mono fun i hi => hk i (h8 n hn i hi), h5, h6, h7, h8, fun i hi => Nat.lt_of_lt_of_le (h9 i hi) hle⟩
theorem CO.within {L : LHeap} {b : Nat} {zs : List Int} {F : List Nat} (h : CO L b zs F) : Within F L := by
  obtain ⟨sl, sc, sy, A1, A2, A3, h1, h2, h3, h4, h5, h6, h7, h8, h9⟩ := h
  exact h9
theorem new_ok {k : Nat} {l : Sl} {zs : List Int} {A : List Nat} {L : LHeap} (hl : Rd L l (zs.map iV) A) (hs : zs.length < 2 ^ 40) (hk : zs.length + 50 ≤ k) :
    (may zs = false → ∃ L', f63 k l L = some (.ret (.tuple #[.pointer none, .int .i64 4]) L') ∧ Step [] L [] L') ∧
    (may zs = true → ∃ b F L', f63 k l L = some (.ret (.tuple #[.pointer (some ⟨b, 0, none⟩), .int .i64 0]) L') ∧ CO L' b zs F ∧ Step [] L F L') := by
  obtain ⟨k, rfl⟩ : ∃ k', k = k' + 1 := ⟨k - 1, by omega⟩
  have hn := hl.len
  simp only [List.length_map] at hn
  obtain ⟨sc, L1, Fc, a1, a2, a3⟩ := codes_ok (k := k) hl hs (by omega)
  rw [f63_eq]
  simp only [a1, lbind_ret, tupL_tuple, uncons_cons, nilL_nil, asSl_slice, asI_int, obind_some]
  constructor
  · intro hm
    rw [codesErr, hm]
    exact ⟨L1, rfl, a3.less fun i hi => by simp at hi⟩
  · intro hm
    obtain ⟨hok, h512, hfill⟩ := may_ok hm
    have hcr : codesRes zs = codesOf zs := by rw [codesRes, if_pos hm]
    have hce : codesErr zs = 0 := by rw [codesErr, if_pos hm]
    rw [hce]
    rw [hcr] at a2
    have hl1 := hl.mono (a3.others hl.within (none_apart _))
    obtain ⟨L2, cs, b1, b2, b3, b4⟩ := count_ok (k := k) hl1 (by omega) (by omega)
    obtain rfl := b3 hok
    have hl2 := hl1.mono (b4.others hl1.within (none_apart _))
    have a22 := a2.mono (b4.others a2.within (none_apart _))
    simp only [bne_self_eq_false, lif_false, b1, lbind_ret, tupL_tuple, uncons_cons, nilL_nil, asAgg_agg, asB_bool, obind_some, b2, Nat.beq_refl, when_true]
    generalize hX : LBlk.cells _ 137 false 0 = X
    have hX' : X = .cells (cntCells []) 137 false 0 := by rw [← hX]; rfl
    have hnew : (L2 ++ [X])[L2.length]? = some (.cells (cntCells []) 137 false 0) := by rw [get_new, hX']
    rw [stores_all hnew (news := cntCells zs) (by simp)]
    have st3 : Step [] L2 [L2.length] ((L2 ++ [X]).set L2.length (.cells (cntCells zs) 137 false 0)) := (Step.new [] L2 X).trans (Step.set _ (by simp))
    have hb3 := get_set_self (x := LBlk.cells (cntCells zs) 137 false 0) hnew
    generalize (L2 ++ [X]).set L2.length (.cells (cntCells zs) 137 false 0) = L3 at *
    have hl3 := hl2.mono (st3.others hl2.within (none_apart _))
    have a23 := a22.mono (st3.others a22.within (none_apart _))
    obtain ⟨sl, L4, Fl, d1, d2, d3⟩ := clone_ok (k := k) hl3 (by omega) (by omega)
    have hl4 := hl3.mono (d3.others hl3.within (none_apart _))
    have a24 := a23.mono (d3.others a23.within (none_apart _))
    have hb4 : L4[L2.length]? = some (.cells (cntCells zs) 137 false 0) := by rw [d3.keep _ (get_lt hb3) (by simp), hb3]
    obtain ⟨L5, e1, e2⟩ := firsts_ok (k := k) (L := L4) hfill (by omega)
    have hl5 := hl4.mono (e2.others hl4.within (none_apart _))
    have a25 := a24.mono (e2.others a24.within (none_apart _))
    have d25 := d2.mono (e2.others d2.within (none_apart _))
    simp only [obind_some, d1, lbindR_ret, asSl_slice, cellsAt_all hb4 (cntCells_length zs), cellsAt_all hb3 (cntCells_length zs), same_self, when_true, e1, asAgg_agg, fcAll_length]
    generalize hW : setAll _ 2 (fcAll zs) = W
    have hWe : W = coderCells sl sc zs (fun _ => ⟨none, 0, 0⟩) := by
      rw [← hW]
      have := setAll_append [slV sl, slV sc] (List.replicate 16 (Value.slice none 0 0)) (fcAll zs) (List.replicate 16 (Value.int .u32 0)) (by simp)
      simp only [List.length_cons, List.length_nil, Nat.zero_add] at this
      exact this
    have hb87 : Nat.beq 16 (Program.cellsOf Proofs.Try.prog #[Field.mk "lengths" 49 0 false "" "hamper/huff" 0, Field.mk "codes" 52 1 false "" "hamper/huff" 24, Field.mk "first" 125 2 false "" "hamper/huff" 48, Field.mk "symbols" 126 18 false "" "hamper/huff" 112][2].type) = true := by
      show Nat.beq 16 (Program.cellsOf Proofs.Try.prog 125) = true
      rw [cells87]; rfl
    rw [hb87]
    simp only [when_true, hWe]
    have hb6 : (L5 ++ [LBlk.cells (coderCells sl sc zs (fun _ => ⟨none, 0, 0⟩)) 128 false 0])[L5.length]? = some (.cells (coderCells sl sc zs (fun _ => ⟨none, 0, 0⟩)) 128 false 0) := get_new
    have st6 := Step.new [] L5 (LBlk.cells (coderCells sl sc zs (fun _ => ⟨none, 0, 0⟩)) 128 false 0)
    generalize L5 ++ [LBlk.cells (coderCells sl sc zs (fun _ => ⟨none, 0, 0⟩)) 128 false 0] = L6 at *
    have hl6 := hl5.mono (st6.others hl5.within (none_apart _))
    have a26 := a25.mono (st6.others a25.within (none_apart _))
    have d26 := d25.mono (st6.others d25.within (none_apart _))
    have wU : Within (Fc ++ Fl ++ A) L6 := fun i hi => by
      simp only [List.mem_append] at hi
      rcases hi with (hi | hi) | hi
      · exact a26.within i hi
      · exact d26.within i hi
      · exact hl6.within i hi
    obtain ⟨sy, G, L7, g1, g2, g3, g4, g5, g6⟩ := new_loop (k := k) (b := L5.length) (sl := sl) (sc := sc) (U := Fc ++ Fl ++ A) hok hn h512 (fun h => by have := hl5.within _ h; omega) (fun i hi => by simp [hi]) zs.length 0 k (fun _ => ⟨none, 0, 0⟩) (fun _ => []) L6 (by omega) (by omega) hb6
      ⟨fun n _ => ⟨OS.nil _ _, by simp, none_apart _⟩, fun _ _ _ _ _ => none_apart _⟩ wU hl6
    rw [hn] at g1
    have keepU : ∀ i ∈ Fc ++ Fl ++ A, L7[i]? = L6[i]? := fun i hi => g5 i (wU i hi) (fun e => by
      subst e
      simp only [List.mem_append] at hi
      rcases hi with (hi | hi) | hi
      · have := a25.within _ hi; omega
      · have := d25.within _ hi; omega
      · have := hl5.within _ hi; omega) (fun _ _ => by simp)
    have hlen6 : L.length ≤ L6.length := by
      have := a3.len; have := b4.len; have := st3.len; have := d3.len; have := e2.len; have := st6.len; omega
    refine ⟨L5.length, L5.length :: (Fc ++ Fl ++ (List.range 16).flatMap G), L7, ?_, ⟨sl, sc, sy, Fl, Fc, G, g2, ?_, ?_, ?_, by simp, fun i hi => by simp [hi], fun i hi => by simp [hi], ?_, ?_⟩, ?_⟩
    · rw [hn]; exact g1
    · exact (d26.mono fun i hi => keepU i (by simp [hi])).rd
    · exact (a26.mono fun i hi => keepU i (by simp [hi])).rd
    · exact fun n hn16 => (g3.1 n hn16).1.ws.rd
    · intro n hn16 i hi
      simp only [List.mem_cons, List.mem_append, List.mem_flatMap, List.mem_range]
      exact .inr (.inr ⟨n, hn16, hi⟩)
    · intro i hi
      simp only [List.mem_cons, List.mem_append, List.mem_flatMap, List.mem_range] at hi
      rcases hi with rfl | (hi | hi) | ⟨n, hn16, hi⟩
      · exact get_lt g2
      · exact Nat.lt_of_lt_of_le (a26.within i hi) g4
      · exact Nat.lt_of_lt_of_le (d26.within i hi) g4
      · exact (g3.1 n hn16).1.within i hi
    · refine ⟨Nat.le_trans hlen6 g4, fun i hi _ => ?_, fun i hi => .inr ?_⟩
      · have q1 := a3.len; have q2 := b4.len; have q3 := st3.len; have q4 := d3.len; have q5 := e2.len
        rw [g5 i (by omega) (by omega) (fun _ _ => by simp), st6.keep i (by omega) (by simp), e2.keep i (by omega) (by simp), d3.keep i (by omega) (by simp), st3.keep i (by omega) (by simp), b4.keep i (by omega) (by simp), a3.keep i hi (by simp)]
      · have q1 := a3.len; have q2 := b4.len; have q3 := st3.len; have q4 := d3.len; have q5 := e2.len; have q6 := st6.len
        simp only [List.mem_cons, List.mem_append, List.mem_flatMap, List.mem_range] at hi
        rcases hi with rfl | (hi | hi) | ⟨n, hn16, hi⟩
        · omega
        · rcases a3.foot i hi with q | q
          · simp at q
          · omega
        · rcases d3.foot i hi with q | q
          · simp at q
          · omega
        · rcases g6 n hn16 i hi with q | q
          · simp at q
          · omega
end Go.Proofs.Ytflhogapjmdkaaa.X
end

section
set_option maxRecDepth 100000
set_option linter.unusedVariables false
namespace Go.Proofs.Ytflhogapjmdkaaa.X
open Go Go.Rlm
def symOk (zs : List Int) (s : Int) : Bool := decide (0 ≤ s) && decide (s < (zs.length : Int)) && decide (0 < zs.getD s.toNat 0)
def symRes (zs : List Int) (s : Int) : Int := if symOk zs s then 0 else 1
def symPut (zs : List Int) (s : Int) : List Bool := if symOk zs s then symBits zs s.toNat else []
theorem cput_ok {k b w : Nat} {s : Int} {zs : List Int} {bs : List Bool} {F G : List Nat} {L : LHeap} (hc : CO L b zs F) (hm : may zs = true) (hw : BW L w bs G) (hs : bs.length < 2 ^ 39) (hk : 50 ≤ k) :
    ∃ L' G', f54 k (some ⟨b, 0, none⟩) (some ⟨w, 0, none⟩) s L = some (.ret (.int .i64 (symRes zs s)) L') ∧ BW L' w (bs ++ symPut zs s) G' ∧ Step G L G' L' := by
  obtain ⟨k, rfl⟩ : ∃ k', k = k' + 1 := ⟨k - 1, by omega⟩
  obtain ⟨sl, sc, sy, A1, A2, A3, h1, h2, h3, h4, h5, h6, h7, h8, h9⟩ := hc
  have hln := h2.len
  simp only [List.length_map] at hln
  have c0 : cell L ⟨b, 0, none⟩ = some (.slice sl.a sl.n sl.c) := by rw [cell_of h1, (coder_len _ _ _ _).1]; rfl
  have c1 : cell L ⟨b, 1, none⟩ = some (.slice sc.a sc.n sc.c) := by rw [cell_of h1, (coder_len _ _ _ _).2]; rfl
  rw [f54_eq]
  simp only [Option.isNone_some, lif_false]
  by_cases s0 : s < 0
  · have hno : symOk zs s = false := by simp [symOk, show ¬ 0 ≤ s by omega]
    refine ⟨L, G, ?_, by rw [symPut, hno]; simpa using hw, .refl _ _⟩
    rw [decide_eq_true s0, symRes, hno]; rfl
  rw [decide_eq_false s0]
  simp only [lif_false, obind_some, mk_add, Nat.zero_add, c0, Option.bind_some, asSl_slice]
  by_cases s1 : s ≥ (zs.length : Int)
  · have hno : symOk zs s = false := by simp [symOk, show ¬ s < (zs.length : Int) by omega]
    refine ⟨L, G, ?_, by rw [symPut, hno]; simpa using hw, .refl _ _⟩
    rw [decide_eq_true (by omega), symRes, hno]; rfl
  rw [decide_eq_false (by omega)]
  obtain ⟨i, rfl⟩ : ∃ i : Nat, s = i := ⟨s.toNat, by omega⟩
  have hi : i < zs.length := by omega
  have hg : zs.getD i 0 = zs[i] := by rw [List.getD_eq_getElem?_getD, List.getElem?_eq_getElem hi]; rfl
  obtain ⟨a, a1, a2⟩ := h2.here (i := i) (v := iV zs[i]) (by simp [hi])
  obtain ⟨a', b1, b2⟩ := h3.here (i := i) (v := uV (codeAt zs i)) (by rw [List.getElem?_map, codesOf_get hi]; rfl)
  simp only [lif_false, a1, a2, iV, obind_some, Option.bind_some, asI_int]
  have hr := okLen_mem (may_ok hm).1 (List.getElem_mem hi)
  by_cases hz : zs[i] = 0
  · have hno : symOk zs (i : Int) = false := by rw [symOk, Int.toNat_natCast, hg, hz]; simp
    refine ⟨L, G, ?_, by rw [symPut, hno]; simpa using hw, .refl _ _⟩
    rw [show (zs[i] == 0) = true by simpa using hz, symRes, hno]; rfl
  have hpos : 0 < zs[i] := by omega
  have hyes : symOk zs (i : Int) = true := by rw [symOk, Int.toNat_natCast, hg]; simp [hpos, hi]
  have hlt := codeAt_lt hm hi hpos
  have hpo : putOk (codeAt zs i) zs[i] = true := by simp only [putOk, Bool.and_eq_true, decide_eq_true_eq]; omega
  have hc16 := codeAt_le hm i
  obtain ⟨L', G', d1, d2, d3⟩ := put_ok (k := k) (v := codeAt zs i) (n := zs[i]) hw (by omega) hs (by omega)
  refine ⟨L', G', ?_, ?_, d3⟩
  · rw [show (zs[i] == 0) = false by simpa using hz]
    simp only [lif_false, c1, Option.bind_some, asSl_slice, obind_some, b1, b2, uV, asI_int, a1, a2, iV, d1, lbindR_ret]
    rw [putRes, if_pos hpo, symRes, if_pos hyes]
  · rw [symPut, if_pos hyes, Int.toNat_natCast, symBits, hg]
    rw [putBits, if_pos hpo] at d2
    exact d2
end Go.Proofs.Ytflhogapjmdkaaa.X
end

section
set_option maxRecDepth 100000
set_option linter.unusedVariables false
namespace Go.Proofs.Ytflhogapjmdkaaa.X
open Go Go.Rlm
/-- The text of bits. -/
def txt (bs : List Bool) : ByteArray := ⟨(bs.map fun x => if x then (49 : UInt8) else 48).toArray⟩
@[simp] theorem txt_size (bs : List Bool) : (txt bs).size = bs.length := by simp [txt, ByteArray.size]
theorem toList_data (s : ByteArray) : s.toList = s.data.toList := ByteArray.toList_eq s
end Go.Proofs.Ytflhogapjmdkaaa.X
end

section
set_option maxRecDepth 100000
set_option linter.unusedVariables false
namespace Go.Proofs.Ytflhogapjmdkaaa.X
open Go Go.Rlm
theorem tab_list : len8tab.data.toList = (List.range 256).map fun i => UInt8.ofNat (nlen i) := by kernel_rfl
theorem bytes_get {s : ByteArray} {i : Nat} {b : UInt8} (h : s.data.toList[i]? = some b) : s[i]? = some b := by
  have h3 : i < s.size := get_lt h
  rw [getElem?_pos s i h3]
  rw [List.getElem?_eq_getElem (get_lt h)] at h
  exact h
theorem byteAt_get {s : ByteArray} {i : Nat} {b : UInt8} (h : s.data.toList[i]? = some b) : byteAt s (i : Int) = some (b.toNat : Int) := by
  simp only [byteAt, Int.toNat_natCast, bytes_get h, decide_eq_true (Int.natCast_nonneg i), cond_true, Option.map_some]
theorem tab_at {i : Nat} (h : i < 256) : byteAt len8tab (i : Int) = some ((nlen i : Nat) : Int) := by
  have h1 : len8tab.data.toList[i]? = some (UInt8.ofNat (nlen i)) := by rw [tab_list, List.getElem?_map, List.getElem?_range h]; rfl
  have h5 : nlen i ≤ 8 := nlen_le (by omega)
  rw [byteAt_get h1]
  simp
  omega
theorem nlen_high {n : Nat} (h1 : 256 ≤ n) (h2 : n < 65536) : nlen n = 8 + nlen (n / 256) := by
  obtain ⟨h3, h4, h5⟩ := nlen_pos (n := n / 256) (by omega)
  obtain ⟨m, hm⟩ : ∃ m, nlen (n / 256) = m + 1 := ⟨nlen (n / 256) - 1, by omega⟩
  rw [hm] at h3 h4
  have h3 : 2 ^ m ≤ n / 256 := by simpa using h3
  have := nlen_eq (n := n) (m := m + 8) (by rw [Nat.pow_add]; omega) (by rw [show m + 8 + 1 = (m + 1) + 8 by omega, Nat.pow_add]; omega)
  omega
theorem len64_ok {k n : Nat} {L : LHeap} (hn : n < 65536) (hk : 1 ≤ k) : f78 k (n : Int) L = some (.ret (.int .i64 ((nlen n : Nat) : Int)) L) := by
  obtain ⟨k, rfl⟩ : ∃ k', k = k' + 1 := ⟨k - 1, by omega⟩
  rw [f78_eq, decide_eq_false (by omega), lif_false, decide_eq_false (by omega), lif_false]
  by_cases h : 256 ≤ n
  · rw [decide_eq_true (by omega), lif_true, show (256 : Int) = 2 ^ 8 by rfl, fdiv_pow, wU8 (by omega) (by omega), tab_at (by omega)]
    have h8 : nlen (n / 2 ^ 8) ≤ 8 := nlen_le (by omega)
    simp only [obind_some]
    rw [wI64 (n := ((nlen (n / 2 ^ 8) : Nat) : Int)) (by omega) (by omega), wI64 (by omega) (by omega), nlen_high h hn]
    simp
  · rw [decide_eq_false (by omega), lif_false, wU8 (by omega) (by omega), tab_at (by omega)]
    have h8 : nlen n ≤ 8 := nlen_le (by omega)
    simp only [obind_some]
    rw [wI64 (n := ((nlen n : Nat) : Int)) (by omega) (by omega), wI64 (by omega) (by omega)]
    simp
theorem len_ok {k n : Nat} {L : LHeap} (hn : n < 65536) (hk : 2 ≤ k) : f56 k (n : Int) L = some (.ret (.int .i64 ((nlen n : Nat) : Int)) L) := by
  obtain ⟨k, rfl⟩ : ∃ k', k = k' + 1 := ⟨k - 1, by omega⟩
  rw [f56_eq, len64_ok hn (by omega)]
  simp only [lbind_ret, asI_int, obind_some]
end Go.Proofs.Ytflhogapjmdkaaa.X
end

section
set_option maxRecDepth 100000
set_option linter.unusedVariables false
namespace Go.Proofs.Ytflhogapjmdkaaa.X
open Go Go.Rlm
def tokL (t : Tok) : List Value := [.int .u8 t.k, .int .u8 t.b, .int .i64 t.l, .int .i64 t.d, .int .i64 t.s]
theorem tok_cell {L : LHeap} {b : Nat} {t : Tok} {sp : Nat} {ro : Bool} (h : L[b]? = some (.cells (tokL t) 29 ro sp)) :
    cell L ((Addr.mk b 0 none).add 0) = some (.int .u8 t.k) ∧ cell L ((Addr.mk b 0 none).add 1) = some (.int .u8 t.b) ∧ cell L ((Addr.mk b 0 none).add 2) = some (.int .i64 t.l) ∧
    cell L ((Addr.mk b 0 none).add 3) = some (.int .i64 t.d) ∧ cell L ((Addr.mk b 0 none).add 4) = some (.int .i64 t.s) := by
  refine ⟨?_, ?_, ?_, ?_, ?_⟩ <;> · simp only [mk_add, cell_of h]; rfl
theorem lif_bool (b x y : Bool) (L : LHeap) : lif b (some (.ret (.bool x) L)) (some (.ret (.bool y) L)) = some (.ret (.bool (cond b x y)) L) := by cases b <;> rfl
theorem shape_ok {k : Nat} {t : Tok} {L : LHeap} (hk : 1 ≤ k) : f16 k t.k t.b t.l t.d t.s L = some (.ret (.bool (tokShape t)) (L ++ [.cells (tokL t) 29 false 0])) := by
  obtain ⟨k, rfl⟩ : ∃ k', k = k' + 1 := ⟨k - 1, by omega⟩
  rw [f16_eq]
  obtain ⟨c0, c1, c2, c3, c4⟩ := tok_cell (t := t) (ro := false) (sp := 0) (L := L ++ [.cells (tokL t) 29 false 0]) get_new
  unfold tokL at *
  simp only [c0, c1, c2, c3, c4, Option.bind_some, asI_int, obind_some, lif_bool]
  have beq_dec : ∀ a b : Int, (a == b) = decide (a = b) := fun _ _ => rfl
  congr 3
  simp only [beq_dec, decide_true, Bool.true_and, Bool.and_true]
  unfold tokShape isLong
  by_cases h1 : t.k = 1
  · rw [if_pos h1]
    simp only [decide_eq_true h1, decide_eq_false (show ¬ t.k = 2 by omega), decide_eq_false (show ¬ t.k = 3 by omega), Bool.true_and, Bool.false_and, cond_false]
    generalize decide (t.l = 0) = a1, decide (t.d = 0) = a2, decide (t.s = 0) = a3, decide (t.l ≥ 3) = a4
    revert a1 a2 a3 a4
    decide
  · rw [if_neg h1]
    by_cases h2 : t.k = 2
    · rw [if_pos h2]
      simp only [decide_eq_false h1, decide_eq_true h2, decide_eq_false (show ¬ t.k = 3 by omega), Bool.true_and, Bool.false_and, cond_false]
      generalize decide (t.b = 0) = a1, decide (t.s = 0) = a2, decide (t.l ≥ 3) = a3, decide (t.l ≤ 258) = a4, decide (t.d ≥ 1) = a5, decide (t.d ≤ 32768) = a6
      revert a1 a2 a3 a4 a5 a6
      decide
    · rw [if_neg h2]
      by_cases h3 : t.k = 3
      · rw [if_pos h3]
        simp only [decide_eq_false h1, decide_eq_false h2, decide_eq_true h3, Bool.true_and, Bool.false_and, cond_false]
        generalize decide (t.b = 0) = a1, decide (t.d = 0) = a2, decide (t.l ≥ 3) = a3, decide (t.l ≤ 258) = a4, decide (t.s ≥ 0) = a5, decide (t.s < 4) = a6
        revert a1 a2 a3 a4 a5 a6
        decide
      · rw [if_neg h3]
        simp only [decide_eq_false h1, decide_eq_false h2, decide_eq_false h3, Bool.false_and, cond_false]
        cases decide (t.l ≥ 3) <;> rfl
/-- A slice that is read: these tokens, in the blocks A. -/
def RT (L : LHeap) (s : Sl) (ts : List Tok) (A : List Nat) : Prop :=
  s.n = ts.length ∧ ((ts = [] ∧ A = []) ∨ ∃ (c o : Nat) (cs : List Value) (e : TypeId) (ro : Bool) (sp : Nat), s.a = some ⟨c, o, none⟩ ∧ L[c]? = some (.cells cs e ro sp) ∧
    (∀ (i : Nat) (t : Tok), ts[i]? = some t → ∀ (j : Nat) (v : Value), (tokL t)[j]? = some v → cs[o + i * 5 + j]? = some v) ∧ A = [c])
theorem RT.len {L : LHeap} {s : Sl} {ts : List Tok} {A : List Nat} (h : RT L s ts A) : s.n = ts.length := h.1
theorem RT.mono {L L' : LHeap} {s : Sl} {ts : List Tok} {A : List Nat} (h : RT L s ts A) (hk : ∀ i ∈ A, L'[i]? = L[i]?) : RT L' s ts A := by
  obtain ⟨h1, h | ⟨c, o, cs, e, ro, sp, h2, h3, h4, rfl⟩⟩ := h
  · exact ⟨h1, .inl h⟩
  · exact ⟨h1, .inr ⟨c, o, cs, e, ro, sp, h2, by rw [hk c (by simp), h3], h4, rfl⟩⟩
theorem RT.within {L : LHeap} {s : Sl} {ts : List Tok} {A : List Nat} (h : RT L s ts A) : Within A L := by
  obtain ⟨h1, ⟨_, rfl⟩ | ⟨c, o, cs, e, ro, sp, h2, h3, h4, rfl⟩⟩ := h
  · intro i hi; cases hi
  · intro i hi; rw [List.mem_singleton.1 hi]; exact get_lt h3
/-- The cells of a token at an address. -/
structure TokAt (L : LHeap) (a : Addr) (t : Tok) : Prop where
  c0 : cell L (a.add 0) = some (.int .u8 t.k)
  c1 : cell L (a.add 1) = some (.int .u8 t.b)
  c2 : cell L (a.add 2) = some (.int .i64 t.l)
  c3 : cell L (a.add 3) = some (.int .i64 t.d)
  c4 : cell L (a.add 4) = some (.int .i64 t.s)
theorem RT.here {L : LHeap} {s : Sl} {ts : List Tok} {A : List Nat} (h : RT L s ts A) {i : Nat} {t : Tok} (ht : ts[i]? = some t) :
    ∃ a, idx s (i : Int) 5 = some a ∧ ∀ L', (∀ x ∈ A, L'[x]? = L[x]?) → TokAt L' a t := by
  have hi := get_lt ht
  obtain ⟨h1, ⟨rfl, _⟩ | ⟨c, o, cs, e, ro, sp, h2, h3, h4, rfl⟩⟩ := h
  · cases ht
  · obtain ⟨sa, sn, sc⟩ := s
    simp only at h1 h2
    subst h1; subst h2
    refine ⟨⟨c, o + i * 5, none⟩, idx_of hi, fun L' hk => ?_⟩
    have hb : L'[c]? = some (.cells cs e ro sp) := by rw [hk c (by simp), h3]
    have key := h4 i t ht
    refine ⟨?_, ?_, ?_, ?_, ?_⟩
    · rw [mk_add, cell_of hb]; exact key 0 _ rfl
    · rw [mk_add, cell_of hb]; exact key 1 _ rfl
    · rw [mk_add, cell_of hb]; exact key 2 _ rfl
    · rw [mk_add, cell_of hb]; exact key 3 _ rfl
    · rw [mk_add, cell_of hb]; exact key 4 _ rfl
theorem tokL_get {ts : List Tok} {i : Nat} {t : Tok} (h : ts[i]? = some t) {j : Nat} {v : Value} (hv : (tokL t)[j]? = some v) : (ts.flatMap tokL)[i * 5 + j]? = some v := by
  have hj : j < 5 := get_lt hv
  induction ts generalizing i with
  | nil => cases h
  | cons u us ih =>
    rw [List.flatMap_cons]
    cases i with
    | zero =>
      simp at h
      subst h
      rw [List.getElem?_append_left (by simp [tokL]; omega)]
      simpa using hv
    | succ i =>
      rw [List.getElem?_append_right (by simp [tokL]; omega)]
      have := ih (i := i) (by simpa using h)
      rw [show (i + 1) * 5 + j - (tokL u).length = i * 5 + j by simp [tokL]; omega]
      exact this
theorem tokList_len : ∀ (ts : List Tok), (ts.flatMap tokL).length = ts.length * 5
  | [] => rfl
  | t :: ts => by
    rw [List.flatMap_cons, List.length_append, tokList_len ts]
    simp [tokL]; omega
theorem OZ.rt {L : LHeap} {s : Sl} {ts : List Tok} {F : List Nat} (h : OZ L s (ts.flatMap tokL) 29 5 F) : RT L s ts F := by
  have hlen := tokList_len ts
  obtain ⟨h1, h2, ⟨rfl, h3, rfl⟩ | ⟨c, h3, h4, rfl⟩⟩ := h
  · have : ts = [] := by
      cases ts with
      | nil => rfl
      | cons t ts => simp [tokL] at h3
    subst this
    exact ⟨rfl, .inl ⟨rfl, rfl⟩⟩
  · have hn : s.n = ts.length := by rw [hlen] at h1; omega
    refine ⟨hn, .inr ⟨c, 0, _, 29, false, 5, by rw [h3], h4, fun i t ht j v hv => ?_, rfl⟩⟩
    rw [Nat.zero_add]
    exact tokL_get ht hv
end Go.Proofs.Ytflhogapjmdkaaa.X
end

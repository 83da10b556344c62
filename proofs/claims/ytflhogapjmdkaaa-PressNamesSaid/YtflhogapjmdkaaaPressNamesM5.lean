/- The logical machine, its likeness to the model, and the contracts of the functions that the law calls. Printed by pack.py, a program of this work, out of its texts; what the law does not use is left out. -/
import Derived.Test.YtflhogapjmdkaaaPressNamesM4
import Derived.Test.YtflhogapjmdkaaaProg
import Derived.KernelRfl
section
set_option maxRecDepth 100000
set_option linter.unusedVariables false
namespace Go.Proofs.Ytflhogapjmdkaaa.X
open Go Go.Rlm
/-- (*hamper/token.maker).dist -/
noncomputable def f90 (k : Nat) (p0 : Option Addr) (n1 : Int) (n2 : Int) (n3 : Int) (n4 : Int) (n5 : Int) (L : LHeap) : R :=
  lcall Proofs.Try.prog Proofs.Ytflhogapjmdkaaa.X.T k 90
  [Value.pointer p0, Value.agg #[Value.int IntKind.u8 n1, Value.int IntKind.u8 n2, Value.int IntKind.i64 n3, Value.int IntKind.i64 n4, Value.int IntKind.i64 n5]] L
/-- (*hamper/token.maker).add -/
noncomputable def f74 (k : Nat) (p0 : Option Addr) (n1 : Int) (n2 : Int) (n3 : Int) (n4 : Int) (n5 : Int) (L : LHeap) : R :=
  lcall Proofs.Try.prog Proofs.Ytflhogapjmdkaaa.X.T k 74
  [Value.pointer p0, Value.agg #[Value.int IntKind.u8 n1, Value.int IntKind.u8 n2, Value.int IntKind.i64 n3, Value.int IntKind.i64 n4, Value.int IntKind.i64 n5]] L
/-- hamper/token.Text -/
noncomputable def f44 (k : Nat) (l0 : Sl) (n1 : Int) (L : LHeap) : R :=
  lcall Proofs.Try.prog Proofs.Ytflhogapjmdkaaa.X.T k 44 [Value.slice l0.a l0.n l0.c, Value.int IntKind.i64 n1] L
/-- slices.Index[[]int,int] -/
noncomputable def f72 (k : Nat) (l0 : Sl) (n1 : Int) (L : LHeap) : R :=
  lcall Proofs.Try.prog Proofs.Ytflhogapjmdkaaa.X.T k 72 [Value.slice l0.a l0.n l0.c, Value.int IntKind.i64 n1] L
/-- hamper/token.Front -/
noncomputable def f73 (k : Nat) (n0 : Int) (n1 : Int) (n2 : Int) (n3 : Int) (n4 : Int) (L : LHeap) : R :=
  lcall Proofs.Try.prog Proofs.Ytflhogapjmdkaaa.X.T k 73 [Value.agg #[Value.int IntKind.i64 n0, Value.int IntKind.i64 n1, Value.int IntKind.i64 n2, Value.int IntKind.i64 n3], Value.int IntKind.i64 n4] L
/-- hamper/match.Find -/
noncomputable def f42 (k : Nat) (s0 : ByteArray) (L : LHeap) : R :=
  lcall Proofs.Try.prog Proofs.Ytflhogapjmdkaaa.X.T k 42 [Value.string s0] L
/-- hamper/press.shortest[string] -/
noncomputable def f43 (k : Nat) (s0 : ByteArray) (l1 : Sl) (L : LHeap) : R :=
  lcall Proofs.Try.prog Proofs.Ytflhogapjmdkaaa.X.T k 43 [Value.string s0, Value.slice l1.a l1.n l1.c] L
/-- hamper/press.Press -/
noncomputable def f22 (k : Nat) (s0 : ByteArray) (L : LHeap) : R :=
  lcall Proofs.Try.prog Proofs.Ytflhogapjmdkaaa.X.T k 22 [Value.string s0] L
/-- hamper/press.Expand -/
noncomputable def f24 (k : Nat) (s0 : ByteArray) (n1 : Int) (L : LHeap) : R :=
  lcall Proofs.Try.prog Proofs.Ytflhogapjmdkaaa.X.T k 24 [Value.string s0, Value.int IntKind.i64 n1] L
/-- hamper/hamperlaw17.many -/
noncomputable def f23 (k : Nat) (n0 : Int) (s1 : ByteArray) (L : LHeap) : R :=
  lcall Proofs.Try.prog Proofs.Ytflhogapjmdkaaa.X.T k 23 [Value.int IntKind.i64 n0, Value.string s1] L
/-- hamper/hamperlaw17.works -/
noncomputable def f21 (k : Nat) (L : LHeap) : R :=
  lcall Proofs.Try.prog Proofs.Ytflhogapjmdkaaa.X.T k 21 [] L
/-- hamper/hamperlaw17.PressNames -/
noncomputable def f10 (k : Nat) (L : LHeap) : R :=
  lcall Proofs.Try.prog Proofs.Ytflhogapjmdkaaa.X.T k 10 [] L
/-- slots 0, 3, 6 -/
noncomputable def f90_c6 (k : Nat) (p7 : Option Addr) (r8 : Nat) (n9 : Int) (L : LHeap) : R :=
  cutAt Proofs.Try.prog Proofs.Ytflhogapjmdkaaa.X.T 90 k [1, 1, 1, 0] [] [(0, Value.pointer p7), (3, Value.pointer (some (Addr.mk r8 0 none))), (6, Value.int IntKind.i64 n9)] L
theorem f90_eq (k : Nat) (p0 : Option Addr) (n1 : Int) (n2 : Int) (n3 : Int) (n4 : Int) (n5 : Int) (L : LHeap) : Proofs.Ytflhogapjmdkaaa.X.f90 (k + 1) p0 n1 n2 n3 n4 n5 L =
  obind
  (Option.bind
    (cell (L ++ [LBlk.cells [Value.int IntKind.u8 n1, Value.int IntKind.u8 n2, Value.int IntKind.i64 n3, Value.int IntKind.i64 n4, Value.int IntKind.i64 n5] 29 false 0])
      (Addr.add (Addr.mk (List.length L) 0 none) 3))
    (asI IntKind.i64))
  fun n6 =>
  obind
    (Option.bind
      (cell (L ++ [LBlk.cells [Value.int IntKind.u8 n1, Value.int IntKind.u8 n2, Value.int IntKind.i64 n3, Value.int IntKind.i64 n4, Value.int IntKind.i64 n5] 29 false 0])
        (Addr.add (Addr.mk (List.length L) 0 none) 0))
      (asI IntKind.u8))
    fun n7 =>
    lif (n7 == 2)
      (obind
        (Option.bind
          (cell (L ++ [LBlk.cells [Value.int IntKind.u8 n1, Value.int IntKind.u8 n2, Value.int IntKind.i64 n3, Value.int IntKind.i64 n4, Value.int IntKind.i64 n5] 29 false 0])
            (Addr.add (Addr.mk (List.length L) 0 none) 0))
          (asI IntKind.u8))
        fun n8 =>
        obind
          (Option.bind
            (cell (L ++ [LBlk.cells [Value.int IntKind.u8 n1, Value.int IntKind.u8 n2, Value.int IntKind.i64 n3, Value.int IntKind.i64 n4, Value.int IntKind.i64 n5] 29 false 0])
              (Addr.add (Addr.mk (List.length L) 0 none) 1))
            (asI IntKind.u8))
          fun n9 =>
          obind
            (Option.bind
              (cell (L ++ [LBlk.cells [Value.int IntKind.u8 n1, Value.int IntKind.u8 n2, Value.int IntKind.i64 n3, Value.int IntKind.i64 n4, Value.int IntKind.i64 n5] 29 false 0])
                (Addr.add (Addr.mk (List.length L) 0 none) 2))
              (asI IntKind.i64))
            fun n10 =>
            obind
              (Option.bind
                (cell (L ++ [LBlk.cells [Value.int IntKind.u8 n1, Value.int IntKind.u8 n2, Value.int IntKind.i64 n3, Value.int IntKind.i64 n4, Value.int IntKind.i64 n5] 29 false 0])
                  (Addr.add (Addr.mk (List.length L) 0 none) 3))
                (asI IntKind.i64))
              fun n11 =>
              obind
                (Option.bind
                  (cell (L ++ [LBlk.cells [Value.int IntKind.u8 n1, Value.int IntKind.u8 n2, Value.int IntKind.i64 n3, Value.int IntKind.i64 n4, Value.int IntKind.i64 n5] 29 false 0])
                    (Addr.add (Addr.mk (List.length L) 0 none) 4))
                  (asI IntKind.i64))
                fun n12 =>
                obind
                  (Option.bind
                    (cell (L ++ [LBlk.cells [Value.int IntKind.u8 n1, Value.int IntKind.u8 n2, Value.int IntKind.i64 n3, Value.int IntKind.i64 n4, Value.int IntKind.i64 n5] 29 false 0])
                      (Addr.add (Addr.mk (List.length L) 0 none) 0))
                    (asI IntKind.u8))
                  fun n13 =>
                  obind
                    (Option.bind
                      (cell (L ++ [LBlk.cells [Value.int IntKind.u8 n1, Value.int IntKind.u8 n2, Value.int IntKind.i64 n3, Value.int IntKind.i64 n4, Value.int IntKind.i64 n5] 29 false 0])
                        (Addr.add (Addr.mk (List.length L) 0 none) 2))
                      (asI IntKind.i64))
                    fun n14 =>
                    lif (n8 == n13 && (n9 == 0 && (n10 == n14 && (n11 == n6 && (n12 == 0 && true)))))
                      (fuel k
                        (Proofs.Ytflhogapjmdkaaa.X.f90_c6 k p0 (List.length L) n6
                          (L ++ [LBlk.cells [Value.int IntKind.u8 n1, Value.int IntKind.u8 n2, Value.int IntKind.i64 n3, Value.int IntKind.i64 n4, Value.int IntKind.i64 n5] 29 false 0])))
                      (obind
                        (Option.bind
                          (cell (L ++ [LBlk.cells [Value.int IntKind.u8 n1, Value.int IntKind.u8 n2, Value.int IntKind.i64 n3, Value.int IntKind.i64 n4, Value.int IntKind.i64 n5] 29 false 0])
                            (Addr.add (Addr.mk (List.length L) 0 none) 0))
                          (asI IntKind.u8))
                        fun n15 =>
                        lif (n15 == 3)
                          (obind
                            (Option.bind
                              (cell (L ++ [LBlk.cells [Value.int IntKind.u8 n1, Value.int IntKind.u8 n2, Value.int IntKind.i64 n3, Value.int IntKind.i64 n4, Value.int IntKind.i64 n5] 29 false 0])
                                (Addr.add (Addr.mk (List.length L) 0 none) 0))
                              (asI IntKind.u8))
                            fun n16 =>
                            obind
                              (Option.bind
                                (cell (L ++ [LBlk.cells [Value.int IntKind.u8 n1, Value.int IntKind.u8 n2, Value.int IntKind.i64 n3, Value.int IntKind.i64 n4, Value.int IntKind.i64 n5] 29 false 0])
                                  (Addr.add (Addr.mk (List.length L) 0 none) 1))
                                (asI IntKind.u8))
                              fun n17 =>
                              obind
                                (Option.bind
                                  (cell (L ++ [LBlk.cells [Value.int IntKind.u8 n1, Value.int IntKind.u8 n2, Value.int IntKind.i64 n3, Value.int IntKind.i64 n4, Value.int IntKind.i64 n5] 29 false 0])
                                    (Addr.add (Addr.mk (List.length L) 0 none) 2))
                                  (asI IntKind.i64))
                                fun n18 =>
                                obind
                                  (Option.bind
                                    (cell
                                      (L ++ [LBlk.cells [Value.int IntKind.u8 n1, Value.int IntKind.u8 n2, Value.int IntKind.i64 n3, Value.int IntKind.i64 n4, Value.int IntKind.i64 n5] 29 false 0])
                                      (Addr.add (Addr.mk (List.length L) 0 none) 3))
                                    (asI IntKind.i64))
                                  fun n19 =>
                                  obind
                                    (Option.bind
                                      (cell
                                        (L ++ [LBlk.cells [Value.int IntKind.u8 n1, Value.int IntKind.u8 n2, Value.int IntKind.i64 n3, Value.int IntKind.i64 n4, Value.int IntKind.i64 n5] 29 false 0])
                                        (Addr.add (Addr.mk (List.length L) 0 none) 4))
                                      (asI IntKind.i64))
                                    fun n20 =>
                                    obind
                                      (Option.bind
                                        (cell
                                          (L ++
                                            [LBlk.cells [Value.int IntKind.u8 n1, Value.int IntKind.u8 n2, Value.int IntKind.i64 n3, Value.int IntKind.i64 n4, Value.int IntKind.i64 n5] 29 false 0])
                                          (Addr.add (Addr.mk (List.length L) 0 none) 0))
                                        (asI IntKind.u8))
                                      fun n21 =>
                                      obind
                                        (Option.bind
                                          (cell
                                            (L ++
                                              [LBlk.cells [Value.int IntKind.u8 n1, Value.int IntKind.u8 n2, Value.int IntKind.i64 n3, Value.int IntKind.i64 n4, Value.int IntKind.i64 n5] 29 false 0])
                                            (Addr.add (Addr.mk (List.length L) 0 none) 2))
                                          (asI IntKind.i64))
                                        fun n22 =>
                                        obind
                                          (Option.bind
                                            (cell
                                              (L ++
                                                [LBlk.cells [Value.int IntKind.u8 n1, Value.int IntKind.u8 n2, Value.int IntKind.i64 n3, Value.int IntKind.i64 n4, Value.int IntKind.i64 n5] 29 false
                                                    0])
                                              (Addr.add (Addr.mk (List.length L) 0 none) 4))
                                            (asI IntKind.i64))
                                          fun n23 =>
                                          lif (n16 == n21 && (n17 == 0 && (n18 == n22 && (n19 == 0 && (n20 == n23 && true)))))
                                            (obind
                                              (Option.bind
                                                (cell
                                                  (L ++
                                                    [LBlk.cells [Value.int IntKind.u8 n1, Value.int IntKind.u8 n2, Value.int IntKind.i64 n3, Value.int IntKind.i64 n4, Value.int IntKind.i64 n5] 29
                                                        false 0])
                                                  (Addr.add (Addr.mk (List.length L) 0 none) 4))
                                                (asI IntKind.i64))
                                              fun n24 =>
                                              lif (decide (n24 ≥ 0))
                                                (obind
                                                  (Option.bind
                                                    (cell
                                                      (L ++
                                                        [LBlk.cells [Value.int IntKind.u8 n1, Value.int IntKind.u8 n2, Value.int IntKind.i64 n3, Value.int IntKind.i64 n4, Value.int IntKind.i64 n5] 29
                                                            false 0])
                                                      (Addr.add (Addr.mk (List.length L) 0 none) 4))
                                                    (asI IntKind.i64))
                                                  fun n25 =>
                                                  lif (decide (n25 < 4))
                                                    (obind
                                                      (Option.bind
                                                        (cell
                                                          (L ++
                                                            [LBlk.cells [Value.int IntKind.u8 n1, Value.int IntKind.u8 n2, Value.int IntKind.i64 n3, Value.int IntKind.i64 n4, Value.int IntKind.i64 n5]
                                                                29 false 0])
                                                          (Addr.add (Addr.mk (List.length L) 0 none) 4))
                                                        (asI IntKind.i64))
                                                      fun n26 =>
                                                      obind p0 fun a27 =>
                                                        when (decide (0 ≤ n26))
                                                          (when (decide (n26 < 4))
                                                            (obind
                                                              (Option.bind
                                                                (cell
                                                                  (L ++
                                                                    [LBlk.cells
                                                                        [Value.int IntKind.u8 n1, Value.int IntKind.u8 n2, Value.int IntKind.i64 n3, Value.int IntKind.i64 n4, Value.int IntKind.i64 n5]
                                                                        29 false 0])
                                                                  (Addr.add (Addr.add a27 1) (Int.toNat n26 * 1)))
                                                                (asI IntKind.i64))
                                                              fun n28 =>
                                                              fuel k
                                                                (Proofs.Ytflhogapjmdkaaa.X.f90_c6 k p0 (List.length L) n28
                                                                  (L ++
                                                                    [LBlk.cells
                                                                        [Value.int IntKind.u8 n1, Value.int IntKind.u8 n2, Value.int IntKind.i64 n3, Value.int IntKind.i64 n4, Value.int IntKind.i64 n5]
                                                                        29 false 0])))))
                                                    (some
                                                      (LR.ret (Value.tuple #[Value.int IntKind.i64 0, Value.bool false])
                                                        (L ++
                                                          [LBlk.cells [Value.int IntKind.u8 n1, Value.int IntKind.u8 n2, Value.int IntKind.i64 n3, Value.int IntKind.i64 n4, Value.int IntKind.i64 n5]
                                                              29 false 0]))))
                                                (some
                                                  (LR.ret (Value.tuple #[Value.int IntKind.i64 0, Value.bool false])
                                                    (L ++
                                                      [LBlk.cells [Value.int IntKind.u8 n1, Value.int IntKind.u8 n2, Value.int IntKind.i64 n3, Value.int IntKind.i64 n4, Value.int IntKind.i64 n5] 29
                                                          false 0]))))
                                            (some
                                              (LR.ret (Value.tuple #[Value.int IntKind.i64 0, Value.bool false])
                                                (L ++
                                                  [LBlk.cells [Value.int IntKind.u8 n1, Value.int IntKind.u8 n2, Value.int IntKind.i64 n3, Value.int IntKind.i64 n4, Value.int IntKind.i64 n5] 29 false
                                                      0]))))
                          (some
                            (LR.ret (Value.tuple #[Value.int IntKind.i64 0, Value.bool false])
                              (L ++ [LBlk.cells [Value.int IntKind.u8 n1, Value.int IntKind.u8 n2, Value.int IntKind.i64 n3, Value.int IntKind.i64 n4, Value.int IntKind.i64 n5] 29 false 0])))))
      (obind
        (Option.bind
          (cell (L ++ [LBlk.cells [Value.int IntKind.u8 n1, Value.int IntKind.u8 n2, Value.int IntKind.i64 n3, Value.int IntKind.i64 n4, Value.int IntKind.i64 n5] 29 false 0])
            (Addr.add (Addr.mk (List.length L) 0 none) 0))
          (asI IntKind.u8))
        fun n29 =>
        lif (n29 == 3)
          (obind
            (Option.bind
              (cell (L ++ [LBlk.cells [Value.int IntKind.u8 n1, Value.int IntKind.u8 n2, Value.int IntKind.i64 n3, Value.int IntKind.i64 n4, Value.int IntKind.i64 n5] 29 false 0])
                (Addr.add (Addr.mk (List.length L) 0 none) 0))
              (asI IntKind.u8))
            fun n30 =>
            obind
              (Option.bind
                (cell (L ++ [LBlk.cells [Value.int IntKind.u8 n1, Value.int IntKind.u8 n2, Value.int IntKind.i64 n3, Value.int IntKind.i64 n4, Value.int IntKind.i64 n5] 29 false 0])
                  (Addr.add (Addr.mk (List.length L) 0 none) 1))
                (asI IntKind.u8))
              fun n31 =>
              obind
                (Option.bind
                  (cell (L ++ [LBlk.cells [Value.int IntKind.u8 n1, Value.int IntKind.u8 n2, Value.int IntKind.i64 n3, Value.int IntKind.i64 n4, Value.int IntKind.i64 n5] 29 false 0])
                    (Addr.add (Addr.mk (List.length L) 0 none) 2))
                  (asI IntKind.i64))
                fun n32 =>
                obind
                  (Option.bind
                    (cell (L ++ [LBlk.cells [Value.int IntKind.u8 n1, Value.int IntKind.u8 n2, Value.int IntKind.i64 n3, Value.int IntKind.i64 n4, Value.int IntKind.i64 n5] 29 false 0])
                      (Addr.add (Addr.mk (List.length L) 0 none) 3))
                    (asI IntKind.i64))
                  fun n33 =>
                  obind
                    (Option.bind
                      (cell (L ++ [LBlk.cells [Value.int IntKind.u8 n1, Value.int IntKind.u8 n2, Value.int IntKind.i64 n3, Value.int IntKind.i64 n4, Value.int IntKind.i64 n5] 29 false 0])
                        (Addr.add (Addr.mk (List.length L) 0 none) 4))
                      (asI IntKind.i64))
                    fun n34 =>
                    obind
                      (Option.bind
                        (cell (L ++ [LBlk.cells [Value.int IntKind.u8 n1, Value.int IntKind.u8 n2, Value.int IntKind.i64 n3, Value.int IntKind.i64 n4, Value.int IntKind.i64 n5] 29 false 0])
                          (Addr.add (Addr.mk (List.length L) 0 none) 0))
                        (asI IntKind.u8))
                      fun n35 =>
                      obind
                        (Option.bind
                          (cell (L ++ [LBlk.cells [Value.int IntKind.u8 n1, Value.int IntKind.u8 n2, Value.int IntKind.i64 n3, Value.int IntKind.i64 n4, Value.int IntKind.i64 n5] 29 false 0])
                            (Addr.add (Addr.mk (List.length L) 0 none) 2))
                          (asI IntKind.i64))
                        fun n36 =>
                        obind
                          (Option.bind
                            (cell (L ++ [LBlk.cells [Value.int IntKind.u8 n1, Value.int IntKind.u8 n2, Value.int IntKind.i64 n3, Value.int IntKind.i64 n4, Value.int IntKind.i64 n5] 29 false 0])
                              (Addr.add (Addr.mk (List.length L) 0 none) 4))
                            (asI IntKind.i64))
                          fun n37 =>
                          lif (n30 == n35 && (n31 == 0 && (n32 == n36 && (n33 == 0 && (n34 == n37 && true)))))
                            (obind
                              (Option.bind
                                (cell (L ++ [LBlk.cells [Value.int IntKind.u8 n1, Value.int IntKind.u8 n2, Value.int IntKind.i64 n3, Value.int IntKind.i64 n4, Value.int IntKind.i64 n5] 29 false 0])
                                  (Addr.add (Addr.mk (List.length L) 0 none) 4))
                                (asI IntKind.i64))
                              fun n38 =>
                              lif (decide (n38 ≥ 0))
                                (obind
                                  (Option.bind
                                    (cell
                                      (L ++ [LBlk.cells [Value.int IntKind.u8 n1, Value.int IntKind.u8 n2, Value.int IntKind.i64 n3, Value.int IntKind.i64 n4, Value.int IntKind.i64 n5] 29 false 0])
                                      (Addr.add (Addr.mk (List.length L) 0 none) 4))
                                    (asI IntKind.i64))
                                  fun n39 =>
                                  lif (decide (n39 < 4))
                                    (obind
                                      (Option.bind
                                        (cell
                                          (L ++
                                            [LBlk.cells [Value.int IntKind.u8 n1, Value.int IntKind.u8 n2, Value.int IntKind.i64 n3, Value.int IntKind.i64 n4, Value.int IntKind.i64 n5] 29 false 0])
                                          (Addr.add (Addr.mk (List.length L) 0 none) 4))
                                        (asI IntKind.i64))
                                      fun n40 =>
                                      obind p0 fun a41 =>
                                        when (decide (0 ≤ n40))
                                          (when (decide (n40 < 4))
                                            (obind
                                              (Option.bind
                                                (cell
                                                  (L ++
                                                    [LBlk.cells [Value.int IntKind.u8 n1, Value.int IntKind.u8 n2, Value.int IntKind.i64 n3, Value.int IntKind.i64 n4, Value.int IntKind.i64 n5] 29
                                                        false 0])
                                                  (Addr.add (Addr.add a41 1) (Int.toNat n40 * 1)))
                                                (asI IntKind.i64))
                                              fun n42 =>
                                              fuel k
                                                (Proofs.Ytflhogapjmdkaaa.X.f90_c6 k p0 (List.length L) n42
                                                  (L ++
                                                    [LBlk.cells [Value.int IntKind.u8 n1, Value.int IntKind.u8 n2, Value.int IntKind.i64 n3, Value.int IntKind.i64 n4, Value.int IntKind.i64 n5] 29
                                                        false 0])))))
                                    (some
                                      (LR.ret (Value.tuple #[Value.int IntKind.i64 0, Value.bool false])
                                        (L ++
                                          [LBlk.cells [Value.int IntKind.u8 n1, Value.int IntKind.u8 n2, Value.int IntKind.i64 n3, Value.int IntKind.i64 n4, Value.int IntKind.i64 n5] 29 false 0]))))
                                (some
                                  (LR.ret (Value.tuple #[Value.int IntKind.i64 0, Value.bool false])
                                    (L ++ [LBlk.cells [Value.int IntKind.u8 n1, Value.int IntKind.u8 n2, Value.int IntKind.i64 n3, Value.int IntKind.i64 n4, Value.int IntKind.i64 n5] 29 false 0]))))
                            (some
                              (LR.ret (Value.tuple #[Value.int IntKind.i64 0, Value.bool false])
                                (L ++ [LBlk.cells [Value.int IntKind.u8 n1, Value.int IntKind.u8 n2, Value.int IntKind.i64 n3, Value.int IntKind.i64 n4, Value.int IntKind.i64 n5] 29 false 0]))))
          (some
            (LR.ret (Value.tuple #[Value.int IntKind.i64 0, Value.bool false])
              (L ++ [LBlk.cells [Value.int IntKind.u8 n1, Value.int IntKind.u8 n2, Value.int IntKind.i64 n3, Value.int IntKind.i64 n4, Value.int IntKind.i64 n5] 29 false 0])))) := by kernel_rfl
theorem f90_c6_eq (k : Nat) (p0 : Option Addr) (r1 : Nat) (n2 : Int) (L : LHeap) : Proofs.Ytflhogapjmdkaaa.X.f90_c6 k p0 r1 n2 L =
  obind (Option.bind (cell L (Addr.add (Addr.mk r1 0 none) 2)) (asI IntKind.i64)) fun n3 =>
  lif (decide (n3 ≥ 3))
    (obind (Option.bind (cell L (Addr.add (Addr.mk r1 0 none) 2)) (asI IntKind.i64)) fun n4 =>
      lif (decide (n4 ≤ 258))
        (lif (decide (n2 ≥ 1))
          (obind p0 fun a5 =>
            obind (Option.bind (cell L (Addr.add a5 0)) asSl) fun l6 =>
              some
                (LR.ret
                  (Value.tuple
                    #[Value.int IntKind.i64 n2,
                      Value.bool (decide (n2 ≤ if false = true then if (↑l6.n : Int) > 32768 then (↑l6.n : Int) else 32768 else if (↑l6.n : Int) < 32768 then (↑l6.n : Int) else 32768))])
                  L))
          (some (LR.ret (Value.tuple #[Value.int IntKind.i64 n2, Value.bool false]) L)))
        (some (LR.ret (Value.tuple #[Value.int IntKind.i64 n2, Value.bool false]) L)))
    (some (LR.ret (Value.tuple #[Value.int IntKind.i64 n2, Value.bool false]) L)) := by kernel_rfl
/-- slots 0, 5, 44, 45 -/
noncomputable def f74_l9 (k : Nat) (j9 : Nat) (p17 : Option Addr) (n18 : Int) (n19 : Int) (n20 : Int) (L : LHeap) : R :=
  loopAt Proofs.Try.prog Proofs.Ytflhogapjmdkaaa.X.T 74 k [1, 1, 1, 1, 1, 0, 1, 0] [] j9
  [(0, Value.pointer p17), (5, Value.int IntKind.i64 n18), (44, Value.int IntKind.i64 n19), (45, Value.int IntKind.i64 n20)] L
theorem f74_eq (k : Nat) (p0 : Option Addr) (n1 : Int) (n2 : Int) (n3 : Int) (n4 : Int) (n5 : Int) (L : LHeap) : Proofs.Ytflhogapjmdkaaa.X.f74 (k + 1) p0 n1 n2 n3 n4 n5 L =
  obind
  (Option.bind
    (cell (L ++ [LBlk.cells [Value.int IntKind.u8 n1, Value.int IntKind.u8 n2, Value.int IntKind.i64 n3, Value.int IntKind.i64 n4, Value.int IntKind.i64 n5] 29 false 0])
      (Addr.add (Addr.mk (List.length L) 0 none) 0))
    (asI IntKind.u8))
  fun n6 =>
  lif (n6 == 1)
    (obind p0 fun a7 =>
      obind
        (Option.bind
          (cell (L ++ [LBlk.cells [Value.int IntKind.u8 n1, Value.int IntKind.u8 n2, Value.int IntKind.i64 n3, Value.int IntKind.i64 n4, Value.int IntKind.i64 n5] 29 false 0]) (Addr.add a7 0)) asSl)
        fun l8 =>
        obind
          (Option.bind
            (cell (L ++ [LBlk.cells [Value.int IntKind.u8 n1, Value.int IntKind.u8 n2, Value.int IntKind.i64 n3, Value.int IntKind.i64 n4, Value.int IntKind.i64 n5] 29 false 0])
              (Addr.add (Addr.mk (List.length L) 0 none) 1))
            (asI IntKind.u8))
          fun n9 =>
          obind
            (Option.bind
              (cell
                (L ++ [LBlk.cells [Value.int IntKind.u8 n1, Value.int IntKind.u8 n2, Value.int IntKind.i64 n3, Value.int IntKind.i64 n4, Value.int IntKind.i64 n5] 29 false 0] ++
                  [LBlk.cells [Value.int IntKind.u8 n9] 5 false 0])
                (Addr.add a7 0))
              asSl)
            fun l10 =>
            when (same (Value.slice l8.a l8.n l8.c) (Value.slice l10.a l10.n l10.c))
              (obind
                (srcOf
                  (L ++ [LBlk.cells [Value.int IntKind.u8 n1, Value.int IntKind.u8 n2, Value.int IntKind.i64 n3, Value.int IntKind.i64 n4, Value.int IntKind.i64 n5] 29 false 0] ++
                    [LBlk.cells [Value.int IntKind.u8 n9] 5 false 0])
                  Proofs.Try.prog.types[5].size 1
                  (Value.slice
                    (some
                      (Addr.mk
                        (List.length (L ++ [LBlk.cells [Value.int IntKind.u8 n1, Value.int IntKind.u8 n2, Value.int IntKind.i64 n3, Value.int IntKind.i64 n4, Value.int IntKind.i64 n5] 29 false 0])) 0
                        none))
                    1 1))
                fun x11 =>
                obind
                  (app
                    (L ++ [LBlk.cells [Value.int IntKind.u8 n1, Value.int IntKind.u8 n2, Value.int IntKind.i64 n3, Value.int IntKind.i64 n4, Value.int IntKind.i64 n5] 29 false 0] ++
                      [LBlk.cells [Value.int IntKind.u8 n9] 5 false 0])
                    5 Proofs.Try.prog.types[5].size Proofs.Try.prog.types[5].bytes l8 1 x11)
                  fun x12 =>
                  obind p0 fun a13 =>
                    obind (stores x12.snd (Addr.add a13 0) [Value.slice x12.fst.a x12.fst.n x12.fst.c]) fun L14 =>
                      obind (Option.bind (cell L14 (Addr.add (Addr.mk (List.length L) 0 none) 0)) (asI IntKind.u8)) fun n15 =>
                        obind (Option.bind (cell L14 (Addr.add (Addr.mk (List.length L) 0 none) 1)) (asI IntKind.u8)) fun n16 =>
                          obind (Option.bind (cell L14 (Addr.add (Addr.mk (List.length L) 0 none) 2)) (asI IntKind.i64)) fun n17 =>
                            obind (Option.bind (cell L14 (Addr.add (Addr.mk (List.length L) 0 none) 3)) (asI IntKind.i64)) fun n18 =>
                              obind (Option.bind (cell L14 (Addr.add (Addr.mk (List.length L) 0 none) 4)) (asI IntKind.i64)) fun n19 =>
                                obind (Option.bind (cell L14 (Addr.add (Addr.mk (List.length L) 0 none) 1)) (asI IntKind.u8)) fun n20 =>
                                  some (LR.ret (Value.bool (n15 == 1 && (n16 == n20 && (n17 == 0 && (n18 == 0 && (n19 == 0 && true)))))) L14)))
    (obind
      (Option.bind
        (cell (L ++ [LBlk.cells [Value.int IntKind.u8 n1, Value.int IntKind.u8 n2, Value.int IntKind.i64 n3, Value.int IntKind.i64 n4, Value.int IntKind.i64 n5] 29 false 0])
          (Addr.add (Addr.mk (List.length L) 0 none) 0))
        (asI IntKind.u8))
      fun n21 =>
      obind
        (Option.bind
          (cell (L ++ [LBlk.cells [Value.int IntKind.u8 n1, Value.int IntKind.u8 n2, Value.int IntKind.i64 n3, Value.int IntKind.i64 n4, Value.int IntKind.i64 n5] 29 false 0])
            (Addr.add (Addr.mk (List.length L) 0 none) 1))
          (asI IntKind.u8))
        fun n22 =>
        obind
          (Option.bind
            (cell (L ++ [LBlk.cells [Value.int IntKind.u8 n1, Value.int IntKind.u8 n2, Value.int IntKind.i64 n3, Value.int IntKind.i64 n4, Value.int IntKind.i64 n5] 29 false 0])
              (Addr.add (Addr.mk (List.length L) 0 none) 2))
            (asI IntKind.i64))
          fun n23 =>
          obind
            (Option.bind
              (cell (L ++ [LBlk.cells [Value.int IntKind.u8 n1, Value.int IntKind.u8 n2, Value.int IntKind.i64 n3, Value.int IntKind.i64 n4, Value.int IntKind.i64 n5] 29 false 0])
                (Addr.add (Addr.mk (List.length L) 0 none) 3))
              (asI IntKind.i64))
            fun n24 =>
            obind
              (Option.bind
                (cell (L ++ [LBlk.cells [Value.int IntKind.u8 n1, Value.int IntKind.u8 n2, Value.int IntKind.i64 n3, Value.int IntKind.i64 n4, Value.int IntKind.i64 n5] 29 false 0])
                  (Addr.add (Addr.mk (List.length L) 0 none) 4))
                (asI IntKind.i64))
              fun n25 =>
              lbind
                (Proofs.Ytflhogapjmdkaaa.X.f90 k p0 n21 n22 n23 n24 n25
                  (L ++ [LBlk.cells [Value.int IntKind.u8 n1, Value.int IntKind.u8 n2, Value.int IntKind.i64 n3, Value.int IntKind.i64 n4, Value.int IntKind.i64 n5] 29 false 0]))
                fun v26 L27 =>
                obind (tupL v26) fun x28 =>
                  uncons x28 fun v29 vs30 =>
                    obind (asI IntKind.i64 v29) fun n31 =>
                      uncons vs30 fun v32 vs33 =>
                        obind (asB v32) fun b34 =>
                          nilL vs33
                            (lif (!b34) (some (LR.ret (Value.bool false) L27))
                              (obind p0 fun a35 =>
                                obind (Option.bind (cell L27 (Addr.add (Addr.add a35 1) 0)) (asI IntKind.i64)) fun n36 =>
                                  obind (Option.bind (cell L27 (Addr.add (Addr.add a35 1) 1)) (asI IntKind.i64)) fun n37 =>
                                    obind (Option.bind (cell L27 (Addr.add (Addr.add a35 1) 2)) (asI IntKind.i64)) fun n38 =>
                                      obind (Option.bind (cell L27 (Addr.add (Addr.add a35 1) 3)) (asI IntKind.i64)) fun n39 =>
                                        lbind (Proofs.Ytflhogapjmdkaaa.X.f73 k n36 n37 n38 n39 n31 L27) fun v40 L41 =>
                                          obind (aggL (List.length ((fun l => List.flatten (List.replicate 4 l)) [Leaf.i IntKind.i64])) v40) fun x42 =>
                                            uncons x42 fun v43 vs44 =>
                                              obind (asI IntKind.i64 v43) fun n45 =>
                                                uncons vs44 fun v46 vs47 =>
                                                  obind (asI IntKind.i64 v46) fun n48 =>
                                                    uncons vs47 fun v49 vs50 =>
                                                      obind (asI IntKind.i64 v49) fun n51 =>
                                                        uncons vs50 fun v52 vs53 =>
                                                          obind (asI IntKind.i64 v52) fun n54 =>
                                                            obind p0 fun a55 =>
                                                              obind
                                                                (stores L41 (Addr.add a55 1)
                                                                  [Value.int IntKind.i64 n45, Value.int IntKind.i64 n48, Value.int IntKind.i64 n51, Value.int IntKind.i64 n54])
                                                                fun L56 =>
                                                                obind (Option.bind (cell L56 (Addr.add (Addr.mk (List.length L) 0 none) 2)) (asI IntKind.i64)) fun n57 =>
                                                                  Proofs.Ytflhogapjmdkaaa.X.f74_l9 k k p0 n31 n57 0 L56))) := by kernel_rfl
theorem f74_l9_eq (k : Nat) (j9 : Nat) (p0 : Option Addr) (n1 : Int) (n2 : Int) (n3 : Int) (L : LHeap) : Proofs.Ytflhogapjmdkaaa.X.f74_l9 k (j9 + 1) p0 n1 n2 n3 L =
  lif (decide (n3 < n2))
  (obind p0 fun a4 =>
    obind (Option.bind (cell L (Addr.add a4 0)) asSl) fun l5 =>
      obind p0 fun a6 =>
        obind (Option.bind (cell L (Addr.add a6 0)) asSl) fun l7 =>
          obind p0 fun a8 =>
            obind (Option.bind (cell L (Addr.add a8 0)) asSl) fun l9 =>
              obind (idx l7 (IntKind.wrap IntKind.i64 ((↑l9.n : Int) - n1)) 1) fun a10 =>
                obind (Option.bind (cell L a10) (asI IntKind.u8)) fun n11 =>
                  obind (Option.bind (cell (L ++ [LBlk.cells [Value.int IntKind.u8 n11] 5 false 0]) (Addr.add a4 0)) asSl) fun l12 =>
                    when (same (Value.slice l5.a l5.n l5.c) (Value.slice l12.a l12.n l12.c))
                      (obind (srcOf (L ++ [LBlk.cells [Value.int IntKind.u8 n11] 5 false 0]) Proofs.Try.prog.types[5].size 1 (Value.slice (some (Addr.mk (List.length L) 0 none)) 1 1)) fun x13 =>
                        obind (app (L ++ [LBlk.cells [Value.int IntKind.u8 n11] 5 false 0]) 5 Proofs.Try.prog.types[5].size Proofs.Try.prog.types[5].bytes l5 1 x13) fun x14 =>
                          obind p0 fun a15 =>
                            obind (stores x14.snd (Addr.add a15 0) [Value.slice x14.fst.a x14.fst.n x14.fst.c]) fun L16 =>
                              Proofs.Ytflhogapjmdkaaa.X.f74_l9 k j9 p0 n1 n2 (IntKind.wrap IntKind.i64 (n3 + 1)) L16))
  (some (LR.ret (Value.bool true) L)) := by kernel_rfl
/-- slots 1, 6, 11, 12, 13 -/
noncomputable def f44_l3 (k : Nat) (j3 : Nat) (n23 : Int) (r24 : Nat) (l25 : Sl) (n26 : Int) (n27 : Int) (L : LHeap) : R :=
  loopAt Proofs.Try.prog Proofs.Ytflhogapjmdkaaa.X.T 44 k [1, 1, 0, 1, 0] [] j3
  [(1, Value.int IntKind.i64 n23), (6, Value.pointer (some (Addr.mk r24 0 none))), (11, Value.slice l25.a l25.n l25.c), (12, Value.int IntKind.i64 n26), (13, Value.int IntKind.i64 n27)] L
theorem f44_eq (k : Nat) (l0 : Sl) (n1 : Int) (L : LHeap) : Proofs.Ytflhogapjmdkaaa.X.f44 (k + 1) l0 n1 L =
  Proofs.Ytflhogapjmdkaaa.X.f44_l3 k k n1 (List.length L) l0 (↑l0.n : Int) 0
  (L ++ [LBlk.cells [Value.slice none 0 0, Value.int IntKind.i64 0, Value.int IntKind.i64 0, Value.int IntKind.i64 0, Value.int IntKind.i64 0] 122 false 0]) := by kernel_rfl
theorem f44_l3_eq (k : Nat) (j3 : Nat) (n0 : Int) (r1 : Nat) (l2 : Sl) (n3 : Int) (n4 : Int) (L : LHeap) : Proofs.Ytflhogapjmdkaaa.X.f44_l3 k (j3 + 1) n0 r1 l2 n3 n4 L =
  lif (decide (n4 < n3))
  (obind (idx l2 n4 5) fun a5 =>
    obind (Option.bind (cell L (Addr.add a5 0)) (asI IntKind.u8)) fun n6 =>
      obind (Option.bind (cell L (Addr.add a5 1)) (asI IntKind.u8)) fun n7 =>
        obind (Option.bind (cell L (Addr.add a5 2)) (asI IntKind.i64)) fun n8 =>
          obind (Option.bind (cell L (Addr.add a5 3)) (asI IntKind.i64)) fun n9 =>
            obind (Option.bind (cell L (Addr.add a5 4)) (asI IntKind.i64)) fun n10 =>
              obind
                (stores (L ++ [LBlk.cells [Value.int IntKind.u8 0, Value.int IntKind.u8 0, Value.int IntKind.i64 0, Value.int IntKind.i64 0, Value.int IntKind.i64 0] 29 false 0])
                  (Addr.mk (List.length L) 0 none) [Value.int IntKind.u8 n6, Value.int IntKind.u8 n7, Value.int IntKind.i64 n8, Value.int IntKind.i64 n9, Value.int IntKind.i64 n10])
                fun L11 =>
                obind (Option.bind (cell L11 (Addr.add (Addr.mk (List.length L) 0 none) 0)) (asI IntKind.u8)) fun n12 =>
                  obind (Option.bind (cell L11 (Addr.add (Addr.mk (List.length L) 0 none) 1)) (asI IntKind.u8)) fun n13 =>
                    obind (Option.bind (cell L11 (Addr.add (Addr.mk (List.length L) 0 none) 2)) (asI IntKind.i64)) fun n14 =>
                      obind (Option.bind (cell L11 (Addr.add (Addr.mk (List.length L) 0 none) 3)) (asI IntKind.i64)) fun n15 =>
                        obind (Option.bind (cell L11 (Addr.add (Addr.mk (List.length L) 0 none) 4)) (asI IntKind.i64)) fun n16 =>
                          lbind (Proofs.Ytflhogapjmdkaaa.X.f74 k (some (Addr.mk r1 0 none)) n12 n13 n14 n15 n16 L11) fun v17 L18 =>
                            obind (asB v17) fun b19 =>
                              lif (!b19) (some (LR.ret (Value.tuple #[Value.string (ByteArray.mk #[]), Value.int IntKind.i64 4]) L18))
                                (obind (Option.bind (cell L18 (Addr.add (Addr.mk r1 0 none) 0)) asSl) fun l20 =>
                                  lif (decide ((↑l20.n : Int) > n0)) (some (LR.ret (Value.tuple #[Value.string (ByteArray.mk #[]), Value.int IntKind.i64 62]) L18))
                                    (Proofs.Ytflhogapjmdkaaa.X.f44_l3 k j3 n0 r1 l2 n3 (IntKind.wrap IntKind.i64 (n4 + 1)) L18)))
  (obind (Option.bind (cell L (Addr.add (Addr.mk r1 0 none) 0)) asSl) fun l21 => obind (bytesOf L l21) fun s22 => some (LR.ret (Value.tuple #[Value.string s22, Value.int IntKind.i64 0]) L)) := by kernel_rfl
/-- slots 0, 1, 7, 8 -/
noncomputable def f72_l2 (k : Nat) (j2 : Nat) (l6 : Sl) (n7 : Int) (n8 : Int) (n9 : Int) (L : LHeap) : R :=
  loopAt Proofs.Try.prog Proofs.Ytflhogapjmdkaaa.X.T 72 k [1, 0, 1, 0] [] j2
  [(0, Value.slice l6.a l6.n l6.c), (1, Value.int IntKind.i64 n7), (7, Value.int IntKind.i64 n8), (8, Value.int IntKind.i64 n9)] L
theorem f72_eq (k : Nat) (l0 : Sl) (n1 : Int) (L : LHeap) : Proofs.Ytflhogapjmdkaaa.X.f72 (k + 1) l0 n1 L =
  Proofs.Ytflhogapjmdkaaa.X.f72_l2 k k l0 n1 (↑l0.n : Int) 0 L := by kernel_rfl
theorem f72_l2_eq (k : Nat) (j2 : Nat) (l0 : Sl) (n1 : Int) (n2 : Int) (n3 : Int) (L : LHeap) : Proofs.Ytflhogapjmdkaaa.X.f72_l2 k (j2 + 1) l0 n1 n2 n3 L =
  lif (decide (n3 < n2))
  (obind (idx l0 n3 1) fun a4 =>
    obind (Option.bind (cell L a4) (asI IntKind.i64)) fun n5 =>
      lif (n1 == n5) (some (LR.ret (Value.int IntKind.i64 n3) L)) (Proofs.Ytflhogapjmdkaaa.X.f72_l2 k j2 l0 n1 n2 (IntKind.wrap IntKind.i64 (n3 + 1)) L))
  (some (LR.ret (Value.int IntKind.i64 (-1)) L)) := by kernel_rfl
/-- slots 1, 2, 4, 5 -/
noncomputable def f73_l4 (k : Nat) (j4 : Nat) (n16 : Int) (r17 : Nat) (r18 : Nat) (n19 : Int) (L : LHeap) : R :=
  loopAt Proofs.Try.prog Proofs.Ytflhogapjmdkaaa.X.T 73 k [1, 1, 1, 0, 0] [] j4
  [(1, Value.int IntKind.i64 n16), (2, Value.pointer (some (Addr.mk r17 0 none))), (4, Value.pointer (some (Addr.mk r18 0 none))), (5, Value.int IntKind.i64 n19)] L
theorem f73_eq (k : Nat) (n0 : Int) (n1 : Int) (n2 : Int) (n3 : Int) (n4 : Int) (L : LHeap) : Proofs.Ytflhogapjmdkaaa.X.f73 (k + 1) n0 n1 n2 n3 n4 L =
  obind
  (cut
    (L ++ [LBlk.cells [Value.int IntKind.i64 n0, Value.int IntKind.i64 n1, Value.int IntKind.i64 n2, Value.int IntKind.i64 n3] 115 false 0] ++
      [LBlk.cells [Value.int IntKind.i64 0, Value.int IntKind.i64 0, Value.int IntKind.i64 0, Value.int IntKind.i64 0] 115 false 0])
    (Sl.mk (some (Addr.mk (List.length L) 0 none)) 4 4) none none none 1)
  fun l5 =>
  lbind
    (Proofs.Ytflhogapjmdkaaa.X.f72 k l5 n4
      (L ++ [LBlk.cells [Value.int IntKind.i64 n0, Value.int IntKind.i64 n1, Value.int IntKind.i64 n2, Value.int IntKind.i64 n3] 115 false 0] ++
        [LBlk.cells [Value.int IntKind.i64 0, Value.int IntKind.i64 0, Value.int IntKind.i64 0, Value.int IntKind.i64 0] 115 false 0]))
    fun v6 L7 =>
    obind (asI IntKind.i64 v6) fun n8 =>
      lif (decide (n8 < 0))
        (Proofs.Ytflhogapjmdkaaa.X.f73_l4 k k n4 (List.length L)
          (List.length (L ++ [LBlk.cells [Value.int IntKind.i64 n0, Value.int IntKind.i64 n1, Value.int IntKind.i64 n2, Value.int IntKind.i64 n3] 115 false 0])) 3 L7)
        (Proofs.Ytflhogapjmdkaaa.X.f73_l4 k k n4 (List.length L)
          (List.length (L ++ [LBlk.cells [Value.int IntKind.i64 n0, Value.int IntKind.i64 n1, Value.int IntKind.i64 n2, Value.int IntKind.i64 n3] 115 false 0])) n8 L7) := by kernel_rfl
theorem f73_l4_eq (k : Nat) (j4 : Nat) (n0 : Int) (r1 : Nat) (r2 : Nat) (n3 : Int) (L : LHeap) : Proofs.Ytflhogapjmdkaaa.X.f73_l4 k (j4 + 1) n0 r1 r2 n3 L =
  lif (decide (n3 > 0))
  (when (decide (0 ≤ IntKind.wrap IntKind.i64 (n3 - 1)))
    (when (decide (IntKind.wrap IntKind.i64 (n3 - 1) < 4))
      (obind (Option.bind (cell L (Addr.add (Addr.mk r1 0 none) (Int.toNat (IntKind.wrap IntKind.i64 (n3 - 1)) * 1))) (asI IntKind.i64)) fun n4 =>
        when (decide (0 ≤ n3))
          (when (decide (n3 < 4))
            (obind (stores L (Addr.add (Addr.mk r1 0 none) (Int.toNat n3 * 1)) [Value.int IntKind.i64 n4]) fun L5 =>
              Proofs.Ytflhogapjmdkaaa.X.f73_l4 k j4 n0 r1 r2 (IntKind.wrap IntKind.i64 (n3 - 1)) L5)))))
  (obind (stores L (Addr.add (Addr.mk r1 0 none) 0) [Value.int IntKind.i64 n0]) fun L6 =>
    obind (Option.bind (cell L6 (Addr.add (Addr.mk r1 0 none) 0)) (asI IntKind.i64)) fun n7 =>
      obind (Option.bind (cell L6 (Addr.add (Addr.mk r1 0 none) 1)) (asI IntKind.i64)) fun n8 =>
        obind (Option.bind (cell L6 (Addr.add (Addr.mk r1 0 none) 2)) (asI IntKind.i64)) fun n9 =>
          obind (Option.bind (cell L6 (Addr.add (Addr.mk r1 0 none) 3)) (asI IntKind.i64)) fun n10 =>
            obind (stores L6 (Addr.mk r2 0 none) [Value.int IntKind.i64 n7, Value.int IntKind.i64 n8, Value.int IntKind.i64 n9, Value.int IntKind.i64 n10]) fun L11 =>
              obind (Option.bind (cell L11 (Addr.add (Addr.mk r2 0 none) 0)) (asI IntKind.i64)) fun n12 =>
                obind (Option.bind (cell L11 (Addr.add (Addr.mk r2 0 none) 1)) (asI IntKind.i64)) fun n13 =>
                  obind (Option.bind (cell L11 (Addr.add (Addr.mk r2 0 none) 2)) (asI IntKind.i64)) fun n14 =>
                    obind (Option.bind (cell L11 (Addr.add (Addr.mk r2 0 none) 3)) (asI IntKind.i64)) fun n15 =>
                      some (LR.ret (Value.agg #[Value.int IntKind.i64 n12, Value.int IntKind.i64 n13, Value.int IntKind.i64 n14, Value.int IntKind.i64 n15]) L11)) := by kernel_rfl
/-- slots 0, 3, 4, 5, 6 -/
noncomputable def f42_l5 (k : Nat) (j5 : Nat) (s36 : ByteArray) (r37 : Nat) (l38 : Sl) (r39 : Nat) (n40 : Int) (L : LHeap) : R :=
  loopAt Proofs.Try.prog Proofs.Ytflhogapjmdkaaa.X.T 42 k [1, 1, 1, 1, 0, 1, 0] [] j5
  [(0, Value.string s36), (3, Value.pointer (some (Addr.mk r37 0 none))), (4, Value.slice l38.a l38.n l38.c), (5, Value.pointer (some (Addr.mk r39 0 none))), (6, Value.int IntKind.i64 n40)] L
/-- slots 0, 3, 4, 5, 6 -/
noncomputable def f42_c9 (k : Nat) (j5_41 : Nat) (s42 : ByteArray) (r43 : Nat) (l44 : Sl) (r45 : Nat) (n46 : Int) (L : LHeap) : R :=
  cutAt Proofs.Try.prog Proofs.Ytflhogapjmdkaaa.X.T 42 k [1, 1, 1, 1, 0, 1, 0, 0, 1, 0, 1, 0, 1, 1, 0, 0] [j5_41]
  [(0, Value.string s42), (3, Value.pointer (some (Addr.mk r43 0 none))), (4, Value.slice l44.a l44.n l44.c), (5, Value.pointer (some (Addr.mk r45 0 none))), (6, Value.int IntKind.i64 n46)] L
/-- slots 0, 3, 4, 5, 6, 7, 8 -/
noncomputable def f42_c11 (k : Nat) (j5_47 : Nat) (s48 : ByteArray) (r49 : Nat) (l50 : Sl) (r51 : Nat) (n52 : Int) (n53 : Int) (n54 : Int) (L : LHeap) : R :=
  cutAt Proofs.Try.prog Proofs.Ytflhogapjmdkaaa.X.T 42 k [1, 1, 1, 1, 0, 1, 0, 0, 1, 0, 1, 1, 0] [j5_47]
  [(0, Value.string s48), (3, Value.pointer (some (Addr.mk r49 0 none))), (4, Value.slice l50.a l50.n l50.c), (5, Value.pointer (some (Addr.mk r51 0 none))), (6, Value.int IntKind.i64 n52),
    (7, Value.int IntKind.i64 n53), (8, Value.int IntKind.i64 n54)]
  L
/-- slots 0, 3, 4, 5, 6, 7, 8, 11 -/
noncomputable def f42_c15 (k : Nat) (j5_55 : Nat) (s56 : ByteArray) (r57 : Nat) (l58 : Sl) (r59 : Nat) (n60 : Int) (n61 : Int) (n62 : Int) (r63 : Nat) (L : LHeap) : R :=
  cutAt Proofs.Try.prog Proofs.Ytflhogapjmdkaaa.X.T 42 k [1, 1, 1, 1, 0, 1, 0, 0, 1, 0, 1, 1, 1, 1, 0] [j5_55]
  [(0, Value.string s56), (3, Value.pointer (some (Addr.mk r57 0 none))), (4, Value.slice l58.a l58.n l58.c), (5, Value.pointer (some (Addr.mk r59 0 none))), (6, Value.int IntKind.i64 n60),
    (7, Value.int IntKind.i64 n61), (8, Value.int IntKind.i64 n62), (11, Value.pointer (some (Addr.mk r63 0 none)))]
  L
theorem f42_eq (k : Nat) (s0 : ByteArray) (L : LHeap) : Proofs.Ytflhogapjmdkaaa.X.f42 (k + 1) s0 L =
  Proofs.Ytflhogapjmdkaaa.X.f42_l5 k k s0 (List.length (L ++ [LBlk.map [] 0])) (Sl.mk none 0 0)
  (List.length (L ++ [LBlk.map [] 0] ++ [LBlk.cells [Value.string s0, Value.map (some (List.length L)), Value.int IntKind.i64 0] 114 false 0])) 0
  (L ++ [LBlk.map [] 0] ++ [LBlk.cells [Value.string s0, Value.map (some (List.length L)), Value.int IntKind.i64 0] 114 false 0] ++
    [LBlk.cells [Value.int IntKind.i64 0, Value.int IntKind.i64 0, Value.int IntKind.i64 0, Value.int IntKind.i64 0] 115 false 0]) := by kernel_rfl
theorem f42_l5_eq (k : Nat) (j5 : Nat) (s0 : ByteArray) (r1 : Nat) (l2 : Sl) (r3 : Nat) (n4 : Int) (L : LHeap) : Proofs.Ytflhogapjmdkaaa.X.f42_l5 k (j5 + 1) s0 r1 l2 r3 n4 L =
  lif (decide (n4 < (↑(ByteArray.size s0) : Int)))
  (lbind (Proofs.Ytflhogapjmdkaaa.X.f71 k (some (Addr.mk r1 0 none)) n4 L) fun v5 L6 =>
    obind (tupL v5) fun x7 =>
      uncons x7 fun v8 vs9 =>
        obind (asI IntKind.i64 v8) fun n10 =>
          uncons vs9 fun v11 vs12 =>
            obind (asI IntKind.i64 v11) fun n13 =>
              nilL vs12
                (lbind (Proofs.Ytflhogapjmdkaaa.X.f71 k (some (Addr.mk r1 0 none)) (IntKind.wrap IntKind.i64 (n4 + 1)) L6) fun v14 L15 =>
                  obind (tupL v14) fun x16 =>
                    uncons x16 fun v17 vs18 =>
                      obind (asI IntKind.i64 v17) fun n19 =>
                        uncons vs18 fun v20 vs21 =>
                          obind (asI IntKind.i64 v20) fun n22 =>
                            nilL vs21
                              (lif (n10 == 0) (fuel k (Proofs.Ytflhogapjmdkaaa.X.f42_c9 k j5 s0 r1 l2 r3 n4 L15))
                                (lif (decide (n19 > n10)) (fuel k (Proofs.Ytflhogapjmdkaaa.X.f42_c9 k j5 s0 r1 l2 r3 n4 L15))
                                  (fuel k (Proofs.Ytflhogapjmdkaaa.X.f42_c11 k j5 s0 r1 l2 r3 n4 n10 n13 L15))))))
  (some (LR.ret (Value.slice l2.a l2.n l2.c) L)) := by kernel_rfl
theorem f42_c9_eq (k : Nat) (j5_0 : Nat) (s1 : ByteArray) (r2 : Nat) (l3 : Sl) (r4 : Nat) (n5 : Int) (L : LHeap) : Proofs.Ytflhogapjmdkaaa.X.f42_c9 k j5_0 s1 r2 l3 r4 n5 L =
  obind (byteAt s1 n5) fun n6 =>
  obind
    (srcOf (L ++ [LBlk.cells [Value.int IntKind.u8 1, Value.int IntKind.u8 n6, Value.int IntKind.i64 0, Value.int IntKind.i64 0, Value.int IntKind.i64 0] 29 false 0]) Proofs.Try.prog.types[29].size 1
      (Value.slice (some (Addr.mk (List.length L) 0 none)) 1 1))
    fun x7 =>
    obind
      (app (L ++ [LBlk.cells [Value.int IntKind.u8 1, Value.int IntKind.u8 n6, Value.int IntKind.i64 0, Value.int IntKind.i64 0, Value.int IntKind.i64 0] 29 false 0]) 29 Proofs.Try.prog.types[29].size
        Proofs.Try.prog.types[29].bytes l3 1 x7)
      fun x8 => Proofs.Ytflhogapjmdkaaa.X.f42_l5 k j5_0 s1 r2 x8.fst r4 (IntKind.wrap IntKind.i64 (n5 + 1)) x8.snd := by kernel_rfl
theorem f42_c11_eq (k : Nat) (j5_0 : Nat) (s1 : ByteArray) (r2 : Nat) (l3 : Sl) (r4 : Nat) (n5 : Int) (n6 : Int) (n7 : Int) (L : LHeap) : Proofs.Ytflhogapjmdkaaa.X.f42_c11 k j5_0 s1 r2 l3 r4 n5 n6 n7 L =
  obind
  (stores (L ++ [LBlk.cells [Value.int IntKind.u8 0, Value.int IntKind.u8 0, Value.int IntKind.i64 0, Value.int IntKind.i64 0, Value.int IntKind.i64 0] 29 false 0]) (Addr.mk (List.length L) 0 none)
    [Value.int IntKind.u8 2, Value.int IntKind.u8 0, Value.int IntKind.i64 n6, Value.int IntKind.i64 n7, Value.int IntKind.i64 0])
  fun L8 =>
  obind (cut L8 (Sl.mk (some (Addr.mk r4 0 none)) 4 4) none none none 1) fun l9 =>
    lbind (Proofs.Ytflhogapjmdkaaa.X.f72 k l9 n7 L8) fun v10 L11 =>
      obind (asI IntKind.i64 v10) fun n12 =>
        lif (decide (n12 ≥ 0))
          (obind (stores L11 (Addr.mk (List.length L) 0 none) [Value.int IntKind.u8 3, Value.int IntKind.u8 0, Value.int IntKind.i64 n6, Value.int IntKind.i64 0, Value.int IntKind.i64 n12]) fun L13 =>
            fuel k (Proofs.Ytflhogapjmdkaaa.X.f42_c15 k j5_0 s1 r2 l3 r4 n5 n6 n7 (List.length L) L13))
          (fuel k (Proofs.Ytflhogapjmdkaaa.X.f42_c15 k j5_0 s1 r2 l3 r4 n5 n6 n7 (List.length L) L11)) := by kernel_rfl
theorem f42_c15_eq (k : Nat) (j5_0 : Nat) (s1 : ByteArray) (r2 : Nat) (l3 : Sl) (r4 : Nat) (n5 : Int) (n6 : Int) (n7 : Int) (r8 : Nat) (L : LHeap) : Proofs.Ytflhogapjmdkaaa.X.f42_c15 k j5_0 s1 r2 l3 r4 n5 n6 n7 r8 L =
  obind (Option.bind (cell L (Addr.add (Addr.mk r8 0 none) 0)) (asI IntKind.u8)) fun n9 =>
  obind (Option.bind (cell L (Addr.add (Addr.mk r8 0 none) 1)) (asI IntKind.u8)) fun n10 =>
    obind (Option.bind (cell L (Addr.add (Addr.mk r8 0 none) 2)) (asI IntKind.i64)) fun n11 =>
      obind (Option.bind (cell L (Addr.add (Addr.mk r8 0 none) 3)) (asI IntKind.i64)) fun n12 =>
        obind (Option.bind (cell L (Addr.add (Addr.mk r8 0 none) 4)) (asI IntKind.i64)) fun n13 =>
          obind
            (srcOf (L ++ [LBlk.cells [Value.int IntKind.u8 n9, Value.int IntKind.u8 n10, Value.int IntKind.i64 n11, Value.int IntKind.i64 n12, Value.int IntKind.i64 n13] 29 false 0])
              Proofs.Try.prog.types[29].size 1 (Value.slice (some (Addr.mk (List.length L) 0 none)) 1 1))
            fun x14 =>
            obind
              (app (L ++ [LBlk.cells [Value.int IntKind.u8 n9, Value.int IntKind.u8 n10, Value.int IntKind.i64 n11, Value.int IntKind.i64 n12, Value.int IntKind.i64 n13] 29 false 0]) 29
                Proofs.Try.prog.types[29].size Proofs.Try.prog.types[29].bytes l3 1 x14)
              fun x15 =>
              obind (Option.bind (cell x15.snd (Addr.add (Addr.mk r4 0 none) 0)) (asI IntKind.i64)) fun n16 =>
                obind (Option.bind (cell x15.snd (Addr.add (Addr.mk r4 0 none) 1)) (asI IntKind.i64)) fun n17 =>
                  obind (Option.bind (cell x15.snd (Addr.add (Addr.mk r4 0 none) 2)) (asI IntKind.i64)) fun n18 =>
                    obind (Option.bind (cell x15.snd (Addr.add (Addr.mk r4 0 none) 3)) (asI IntKind.i64)) fun n19 =>
                      lbind (Proofs.Ytflhogapjmdkaaa.X.f73 k n16 n17 n18 n19 n7 x15.snd) fun v20 L21 =>
                        obind (aggL (List.length ((fun l => List.flatten (List.replicate 4 l)) [Leaf.i IntKind.i64])) v20) fun x22 =>
                          uncons x22 fun v23 vs24 =>
                            obind (asI IntKind.i64 v23) fun n25 =>
                              uncons vs24 fun v26 vs27 =>
                                obind (asI IntKind.i64 v26) fun n28 =>
                                  uncons vs27 fun v29 vs30 =>
                                    obind (asI IntKind.i64 v29) fun n31 =>
                                      uncons vs30 fun v32 vs33 =>
                                        obind (asI IntKind.i64 v32) fun n34 =>
                                          obind (stores L21 (Addr.mk r4 0 none) [Value.int IntKind.i64 n25, Value.int IntKind.i64 n28, Value.int IntKind.i64 n31, Value.int IntKind.i64 n34]) fun L35 =>
                                            Proofs.Ytflhogapjmdkaaa.X.f42_l5 k j5_0 s1 r2 x15.fst r4 (IntKind.wrap IntKind.i64 (n5 + n6)) L35 := by kernel_rfl
/-- slots 0, 7, 8, 9 -/
noncomputable def f43_l2 (k : Nat) (j2 : Nat) (s6 : ByteArray) (l7 : Sl) (n8 : Int) (n9 : Int) (L : LHeap) : R :=
  loopAt Proofs.Try.prog Proofs.Ytflhogapjmdkaaa.X.T 43 k [1, 0, 1, 0] [] j2 [(0, Value.string s6), (7, Value.slice l7.a l7.n l7.c), (8, Value.int IntKind.i64 n8), (9, Value.int IntKind.i64 n9)] L
theorem f43_eq (k : Nat) (s0 : ByteArray) (l1 : Sl) (L : LHeap) : Proofs.Ytflhogapjmdkaaa.X.f43 (k + 1) s0 l1 L =
  Proofs.Ytflhogapjmdkaaa.X.f43_l2 k k s0 l1 (↑l1.n : Int) 0 L := by kernel_rfl
theorem f43_l2_eq (k : Nat) (j2 : Nat) (s0 : ByteArray) (l1 : Sl) (n2 : Int) (n3 : Int) (L : LHeap) : Proofs.Ytflhogapjmdkaaa.X.f43_l2 k (j2 + 1) s0 l1 n2 n3 L =
  lif (decide (n3 < n2))
  (obind (idx l1 n3 1) fun a4 =>
    obind (Option.bind (cell L a4) asS) fun s5 =>
      lif (decide ((↑(ByteArray.size s5) : Int) < (↑(ByteArray.size s0) : Int))) (Proofs.Ytflhogapjmdkaaa.X.f43_l2 k j2 s5 l1 n2 (IntKind.wrap IntKind.i64 (n3 + 1)) L)
        (Proofs.Ytflhogapjmdkaaa.X.f43_l2 k j2 s0 l1 n2 (IntKind.wrap IntKind.i64 (n3 + 1)) L))
  (some (LR.ret (Value.string s0) L)) := by kernel_rfl
theorem f22_eq (k : Nat) (s0 : ByteArray) (L : LHeap) : Proofs.Ytflhogapjmdkaaa.X.f22 (k + 1) s0 L =
  when (fitsS (ByteArray.size (ByteArray.mk #[0]) + ByteArray.size s0))
  (lbind (Proofs.Ytflhogapjmdkaaa.X.f42 k s0 L) fun v1 L2 =>
    obind (asSl v1) fun l3 =>
      lbind (Proofs.Ytflhogapjmdkaaa.X.f14 k l3 L2) fun v4 L5 =>
        obind (tupL v4) fun x6 =>
          uncons x6 fun v7 vs8 =>
            obind (asS v7) fun s9 =>
              uncons vs8 fun v10 vs11 =>
                obind (asI IntKind.i64 v10) fun n12 =>
                  nilL vs11
                    (lif (n12 != 0) (some (LR.ret (Value.string (ByteArray.mk #[0] ++ s0)) L5))
                      (when (fitsS (ByteArray.size (ByteArray.mk #[1]) + ByteArray.size s9))
                        (lbind
                          (Proofs.Ytflhogapjmdkaaa.X.f43 k (ByteArray.mk #[0] ++ s0) (Sl.mk (some (Addr.mk (List.length L5) 0 none)) 1 1)
                            (L5 ++ [LBlk.cells [Value.string (ByteArray.mk #[1] ++ s9)] 9 false 0]))
                          fun v13 L14 => obind (asS v13) fun s15 => some (LR.ret (Value.string s15) L14))))) := by kernel_rfl
theorem f24_eq (k : Nat) (s0 : ByteArray) (n1 : Int) (L : LHeap) : Proofs.Ytflhogapjmdkaaa.X.f24 (k + 1) s0 n1 L =
  lif (ByteArray.toList s0 == ByteArray.toList (ByteArray.mk #[])) (some (LR.ret (Value.tuple #[Value.string (ByteArray.mk #[]), Value.int IntKind.i64 4]) L))
  (obind (subS s0 none (some 1)) fun s2 =>
    obind (subS s0 (some 1) none) fun s3 =>
      lif (ByteArray.toList s2 == ByteArray.toList (ByteArray.mk #[0]))
        (lif (decide ((↑(ByteArray.size s3) : Int) > n1)) (some (LR.ret (Value.tuple #[Value.string (ByteArray.mk #[]), Value.int IntKind.i64 62]) L))
          (lif (ByteArray.toList s2 == ByteArray.toList (ByteArray.mk #[0])) (some (LR.ret (Value.tuple #[Value.string s3, Value.int IntKind.i64 0]) L))
            (lif (!ByteArray.toList s2 == ByteArray.toList (ByteArray.mk #[1])) (some (LR.ret (Value.tuple #[Value.string (ByteArray.mk #[]), Value.int IntKind.i64 4]) L))
              (lbind (Proofs.Ytflhogapjmdkaaa.X.f19 k s3 L) fun v4 L5 =>
                obind (tupL v4) fun x6 =>
                  uncons x6 fun v7 vs8 =>
                    obind (asSl v7) fun l9 =>
                      uncons vs8 fun v10 vs11 =>
                        obind (asI IntKind.i64 v10) fun n12 =>
                          nilL vs11
                            (lif (n12 != 0) (some (LR.ret (Value.tuple #[Value.string (ByteArray.mk #[]), Value.int IntKind.i64 4]) L5))
                              (lbind (Proofs.Ytflhogapjmdkaaa.X.f44 k l9 n1 L5) fun v13 L14 =>
                                obind (tupL v13) fun x15 =>
                                  uncons x15 fun v16 vs17 =>
                                    obind (asS v16) fun s18 =>
                                      uncons vs17 fun v19 vs20 =>
                                        obind (asI IntKind.i64 v19) fun n21 => nilL vs20 (some (LR.ret (Value.tuple #[Value.string s18, Value.int IntKind.i64 n21]) L14))))))))
        (lif (ByteArray.toList s2 == ByteArray.toList (ByteArray.mk #[0])) (some (LR.ret (Value.tuple #[Value.string s3, Value.int IntKind.i64 0]) L))
          (lif (!ByteArray.toList s2 == ByteArray.toList (ByteArray.mk #[1])) (some (LR.ret (Value.tuple #[Value.string (ByteArray.mk #[]), Value.int IntKind.i64 4]) L))
            (lbind (Proofs.Ytflhogapjmdkaaa.X.f19 k s3 L) fun v22 L23 =>
              obind (tupL v22) fun x24 =>
                uncons x24 fun v25 vs26 =>
                  obind (asSl v25) fun l27 =>
                    uncons vs26 fun v28 vs29 =>
                      obind (asI IntKind.i64 v28) fun n30 =>
                        nilL vs29
                          (lif (n30 != 0) (some (LR.ret (Value.tuple #[Value.string (ByteArray.mk #[]), Value.int IntKind.i64 4]) L23))
                            (lbind (Proofs.Ytflhogapjmdkaaa.X.f44 k l27 n1 L23) fun v31 L32 =>
                              obind (tupL v31) fun x33 =>
                                uncons x33 fun v34 vs35 =>
                                  obind (asS v34) fun s36 =>
                                    uncons vs35 fun v37 vs38 => obind (asI IntKind.i64 v37) fun n39 => nilL vs38 (some (LR.ret (Value.tuple #[Value.string s36, Value.int IntKind.i64 n39]) L32)))))))) := by kernel_rfl
/-- slots 0, 1, 5, 6 -/
noncomputable def f23_l3 (k : Nat) (j3 : Nat) (n4 : Int) (s5 : ByteArray) (s6 : ByteArray) (n7 : Int) (L : LHeap) : R :=
  loopAt Proofs.Try.prog Proofs.Ytflhogapjmdkaaa.X.T 23 k [1, 1, 0, 1, 0] [] j3 [(0, Value.int IntKind.i64 n4), (1, Value.string s5), (5, Value.string s6), (6, Value.int IntKind.i64 n7)] L
theorem f23_eq (k : Nat) (n0 : Int) (s1 : ByteArray) (L : LHeap) : Proofs.Ytflhogapjmdkaaa.X.f23 (k + 1) n0 s1 L =
  Proofs.Ytflhogapjmdkaaa.X.f23_l3 k k n0 s1 (ByteArray.mk #[]) 0 L := by kernel_rfl
theorem f23_l3_eq (k : Nat) (j3 : Nat) (n0 : Int) (s1 : ByteArray) (s2 : ByteArray) (n3 : Int) (L : LHeap) : Proofs.Ytflhogapjmdkaaa.X.f23_l3 k (j3 + 1) n0 s1 s2 n3 L =
  lif (decide (n3 < n0)) (when (fitsS (ByteArray.size s2 + ByteArray.size s1)) (Proofs.Ytflhogapjmdkaaa.X.f23_l3 k j3 n0 s1 (s2 ++ s1) (IntKind.wrap IntKind.i64 (n3 + 1)) L))
  (some (LR.ret (Value.string s2) L)) := by kernel_rfl
theorem f21_eq (k : Nat) (L : LHeap) : Proofs.Ytflhogapjmdkaaa.X.f21 (k + 1) L =
  lbind (Proofs.Ytflhogapjmdkaaa.X.f24 k (ByteArray.mk #[]) 9 L) fun v0 L1 =>
  obind (tupL v0) fun x2 =>
    uncons x2 fun v3 vs4 =>
      obind (asS v3) fun s5 =>
        uncons vs4 fun v6 vs7 =>
          obind (asI IntKind.i64 v6) fun n8 =>
            nilL vs7
              (lbind (Proofs.Ytflhogapjmdkaaa.X.f24 k (ByteArray.mk #[2]) 9 L1) fun v9 L10 =>
                obind (tupL v9) fun x11 =>
                  uncons x11 fun v12 vs13 =>
                    obind (asS v12) fun s14 =>
                      uncons vs13 fun v15 vs16 =>
                        obind (asI IntKind.i64 v15) fun n17 =>
                          nilL vs16
                            (lbind (Proofs.Ytflhogapjmdkaaa.X.f24 k (ByteArray.mk #[0, 97, 98]) 1 L10) fun v18 L19 =>
                              obind (tupL v18) fun x20 =>
                                uncons x20 fun v21 vs22 =>
                                  obind (asS v21) fun s23 =>
                                    uncons vs22 fun v24 vs25 =>
                                      obind (asI IntKind.i64 v24) fun n26 =>
                                        nilL vs25
                                          (lbind (Proofs.Ytflhogapjmdkaaa.X.f24 k (ByteArray.mk #[0, 97, 98]) 2 L19) fun v27 L28 =>
                                            obind (tupL v27) fun x29 =>
                                              uncons x29 fun v30 vs31 =>
                                                obind (asS v30) fun s32 =>
                                                  uncons vs31 fun v33 vs34 =>
                                                    obind (asI IntKind.i64 v33) fun n35 =>
                                                      nilL vs34
                                                        (lbind (Proofs.Ytflhogapjmdkaaa.X.f22 k (ByteArray.mk #[]) L28) fun v36 L37 =>
                                                          obind (asS v36) fun s38 =>
                                                            lif (ByteArray.toList s38 == ByteArray.toList (ByteArray.mk #[0]))
                                                              (lbind (Proofs.Ytflhogapjmdkaaa.X.f22 k (ByteArray.mk #[97, 98]) L37) fun v39 L40 =>
                                                                obind (asS v39) fun s41 =>
                                                                  lif (ByteArray.toList s41 == ByteArray.toList (ByteArray.mk #[0, 97, 98]))
                                                                    (lbind (Proofs.Ytflhogapjmdkaaa.X.f23 k 1000 (ByteArray.mk #[97]) L40) fun v42 L43 =>
                                                                      obind (asS v42) fun s44 =>
                                                                        lbind (Proofs.Ytflhogapjmdkaaa.X.f22 k s44 L43) fun v45 L46 =>
                                                                          obind (asS v45) fun s47 =>
                                                                            lif (decide ((↑(ByteArray.size s47) : Int) < 200))
                                                                              (lif (n8 == 4)
                                                                                (lif (n17 == 4)
                                                                                  (lif (n26 == 62)
                                                                                    (lif (ByteArray.toList s32 == ByteArray.toList (ByteArray.mk #[97, 98])) (some (LR.ret (Value.bool (n35 == 0)) L46))
                                                                                      (some (LR.ret (Value.bool false) L46)))
                                                                                    (some (LR.ret (Value.bool false) L46)))
                                                                                  (some (LR.ret (Value.bool false) L46)))
                                                                                (some (LR.ret (Value.bool false) L46)))
                                                                              (some (LR.ret (Value.bool false) L46)))
                                                                    (some (LR.ret (Value.bool false) L40)))
                                                              (some (LR.ret (Value.bool false) L37)))))) := by kernel_rfl
/-- slots 1, 2, 3 -/
noncomputable def f10_c5 (k : Nat) (s15 : ByteArray) (s16 : ByteArray) (n17 : Int) (L : LHeap) : R :=
  cutAt Proofs.Try.prog Proofs.Ytflhogapjmdkaaa.X.T 10 k [1, 1, 1, 1, 0] [] [(1, Value.string s15), (2, Value.string s16), (3, Value.int IntKind.i64 n17)] L
/-- slots 1, 2, 3, 5, 7 -/
noncomputable def f10_c7 (k : Nat) (s18 : ByteArray) (s19 : ByteArray) (n20 : Int) (n21 : Int) (n22 : Int) (L : LHeap) : R :=
  cutAt Proofs.Try.prog Proofs.Ytflhogapjmdkaaa.X.T 10 k [1, 1, 1, 1, 1, 1, 0] []
  [(1, Value.string s18), (2, Value.string s19), (3, Value.int IntKind.i64 n20), (5, Value.int IntKind.i64 n21), (7, Value.int IntKind.i64 n22)] L
/-- slots 1, 2, 3, 5, 7, 9, 11 -/
noncomputable def f10_c9 (k : Nat) (s23 : ByteArray) (s24 : ByteArray) (n25 : Int) (n26 : Int) (n27 : Int) (n28 : Int) (n29 : Int) (L : LHeap) : R :=
  cutAt Proofs.Try.prog Proofs.Ytflhogapjmdkaaa.X.T 10 k [1, 1, 1, 1, 1, 1, 1, 1, 0] []
  [(1, Value.string s23), (2, Value.string s24), (3, Value.int IntKind.i64 n25), (5, Value.int IntKind.i64 n26), (7, Value.int IntKind.i64 n27), (9, Value.int IntKind.i64 n28),
    (11, Value.int IntKind.i64 n29)]
  L
/-- slots 1, 2, 3, 5, 7, 9, 11, 13, 15 -/
noncomputable def f10_c11 (k : Nat) (s30 : ByteArray) (s31 : ByteArray) (n32 : Int) (n33 : Int) (n34 : Int) (n35 : Int) (n36 : Int) (n37 : Int) (n38 : Int) (L : LHeap) : R :=
  cutAt Proofs.Try.prog Proofs.Ytflhogapjmdkaaa.X.T 10 k [1, 1, 1, 1, 1, 1, 1, 1, 1, 1, 0] []
  [(1, Value.string s30), (2, Value.string s31), (3, Value.int IntKind.i64 n32), (5, Value.int IntKind.i64 n33), (7, Value.int IntKind.i64 n34), (9, Value.int IntKind.i64 n35),
    (11, Value.int IntKind.i64 n36), (13, Value.int IntKind.i64 n37), (15, Value.int IntKind.i64 n38)]
  L
/-- slots 1, 2, 3, 5, 7, 9, 11, 13, 15, 16, 17 -/
noncomputable def f10_c12 (k : Nat) (s39 : ByteArray) (s40 : ByteArray) (n41 : Int) (n42 : Int) (n43 : Int) (n44 : Int) (n45 : Int) (n46 : Int) (n47 : Int) (s48 : ByteArray) (n49 : Int) (L : LHeap) : R :=
  cutAt Proofs.Try.prog Proofs.Ytflhogapjmdkaaa.X.T 10 k [1, 1, 1, 1, 1, 1, 1, 1, 1, 1, 1, 0] []
  [(1, Value.string s39), (2, Value.string s40), (3, Value.int IntKind.i64 n41), (5, Value.int IntKind.i64 n42), (7, Value.int IntKind.i64 n43), (9, Value.int IntKind.i64 n44),
    (11, Value.int IntKind.i64 n45), (13, Value.int IntKind.i64 n46), (15, Value.int IntKind.i64 n47), (16, Value.string s48), (17, Value.int IntKind.i64 n49)]
  L
theorem f10_eq (k : Nat) (L : LHeap) : Proofs.Ytflhogapjmdkaaa.X.f10 (k + 1) L =
  lbind (Proofs.Ytflhogapjmdkaaa.X.f21 k L) fun v0 L1 =>
  obind (asB v0) fun b2 =>
    lif (!b2) (some (LR.ret (Value.bool false) L1))
      (lbind (Proofs.Ytflhogapjmdkaaa.X.f23 k 300 (ByteArray.mk #[104, 97, 109, 112, 101, 114, 32]) L1) fun v3 L4 =>
        obind (asS v3) fun s5 =>
          lbind (Proofs.Ytflhogapjmdkaaa.X.f22 k s5 L4) fun v6 L7 =>
            obind (asS v6) fun s8 =>
              lbind (Proofs.Ytflhogapjmdkaaa.X.f24 k s8 2100 L7) fun v9 L10 =>
                obind (tupL v9) fun x11 =>
                  uncons x11 fun v12 vs13 =>
                    obind (asS v12) fun s14 => uncons vs13 fun v15 vs16 => obind (asI IntKind.i64 v15) fun n17 => nilL vs16 (fuel k (Proofs.Ytflhogapjmdkaaa.X.f10_c5 k s8 s14 n17 L10))) := by kernel_rfl
theorem f10_c5_eq (k : Nat) (s0 : ByteArray) (s1 : ByteArray) (n2 : Int) (L : LHeap) : Proofs.Ytflhogapjmdkaaa.X.f10_c5 k s0 s1 n2 L =
  lbind (Proofs.Ytflhogapjmdkaaa.X.f24 k s0 2099 L) fun v3 L4 =>
  obind (tupL v3) fun x5 =>
    uncons x5 fun v6 vs7 =>
      obind (asS v6) fun s8 =>
        uncons vs7 fun v9 vs10 =>
          obind (asI IntKind.i64 v9) fun n11 =>
            nilL vs10
              (lbind (Proofs.Ytflhogapjmdkaaa.X.f24 k s0 (-1) L4) fun v12 L13 =>
                obind (tupL v12) fun x14 =>
                  uncons x14 fun v15 vs16 =>
                    obind (asS v15) fun s17 => uncons vs16 fun v18 vs19 => obind (asI IntKind.i64 v18) fun n20 => nilL vs19 (fuel k (Proofs.Ytflhogapjmdkaaa.X.f10_c7 k s0 s1 n2 n11 n20 L13))) := by kernel_rfl
theorem f10_c7_eq (k : Nat) (s0 : ByteArray) (s1 : ByteArray) (n2 : Int) (n3 : Int) (n4 : Int) (L : LHeap) : Proofs.Ytflhogapjmdkaaa.X.f10_c7 k s0 s1 n2 n3 n4 L =
  obind (subS s0 none (some (IntKind.wrap IntKind.i64 ((↑(ByteArray.size s0) : Int) - 1)))) fun s5 =>
  lbind (Proofs.Ytflhogapjmdkaaa.X.f24 k s5 9999 L) fun v6 L7 =>
    obind (tupL v6) fun x8 =>
      uncons x8 fun v9 vs10 =>
        obind (asS v9) fun s11 =>
          uncons vs10 fun v12 vs13 =>
            obind (asI IntKind.i64 v12) fun n14 =>
              nilL vs13
                (when (fitsS (ByteArray.size s0 + ByteArray.size (ByteArray.mk #[0])))
                  (lbind (Proofs.Ytflhogapjmdkaaa.X.f24 k (s0 ++ ByteArray.mk #[0]) 9999 L7) fun v15 L16 =>
                    obind (tupL v15) fun x17 =>
                      uncons x17 fun v18 vs19 =>
                        obind (asS v18) fun s20 =>
                          uncons vs19 fun v21 vs22 => obind (asI IntKind.i64 v21) fun n23 => nilL vs22 (fuel k (Proofs.Ytflhogapjmdkaaa.X.f10_c9 k s0 s1 n2 n3 n4 n14 n23 L16)))) := by kernel_rfl
theorem f10_c9_eq (k : Nat) (s0 : ByteArray) (s1 : ByteArray) (n2 : Int) (n3 : Int) (n4 : Int) (n5 : Int) (n6 : Int) (L : LHeap) : Proofs.Ytflhogapjmdkaaa.X.f10_c9 k s0 s1 n2 n3 n4 n5 n6 L =
  lbind (Proofs.Ytflhogapjmdkaaa.X.f24 k (ByteArray.mk #[1]) 9999 L) fun v7 L8 =>
  obind (tupL v7) fun x9 =>
    uncons x9 fun v10 vs11 =>
      obind (asS v10) fun s12 =>
        uncons vs11 fun v13 vs14 =>
          obind (asI IntKind.i64 v13) fun n15 =>
            nilL vs14
              (lbind (Proofs.Ytflhogapjmdkaaa.X.f24 k (ByteArray.mk #[0]) (-1) L8) fun v16 L17 =>
                obind (tupL v16) fun x18 =>
                  uncons x18 fun v19 vs20 =>
                    obind (asS v19) fun s21 =>
                      uncons vs20 fun v22 vs23 => obind (asI IntKind.i64 v22) fun n24 => nilL vs23 (fuel k (Proofs.Ytflhogapjmdkaaa.X.f10_c11 k s0 s1 n2 n3 n4 n5 n6 n15 n24 L17))) := by kernel_rfl
theorem f10_c11_eq (k : Nat) (s0 : ByteArray) (s1 : ByteArray) (n2 : Int) (n3 : Int) (n4 : Int) (n5 : Int) (n6 : Int) (n7 : Int) (n8 : Int) (L : LHeap) : Proofs.Ytflhogapjmdkaaa.X.f10_c11 k s0 s1 n2 n3 n4 n5 n6 n7 n8 L =
  lbind (Proofs.Ytflhogapjmdkaaa.X.f24 k (ByteArray.mk #[0]) 0 L) fun v9 L10 =>
  obind (tupL v9) fun x11 =>
    uncons x11 fun v12 vs13 =>
      obind (asS v12) fun s14 => uncons vs13 fun v15 vs16 => obind (asI IntKind.i64 v15) fun n17 => nilL vs16 (fuel k (Proofs.Ytflhogapjmdkaaa.X.f10_c12 k s0 s1 n2 n3 n4 n5 n6 n7 n8 s14 n17 L10)) := by kernel_rfl
theorem f10_c12_eq (k : Nat) (s0 : ByteArray) (s1 : ByteArray) (n2 : Int) (n3 : Int) (n4 : Int) (n5 : Int) (n6 : Int) (n7 : Int) (n8 : Int) (s9 : ByteArray) (n10 : Int) (L : LHeap) : Proofs.Ytflhogapjmdkaaa.X.f10_c12 k s0 s1 n2 n3 n4 n5 n6 n7 n8 s9 n10 L =
  lif (decide ((↑(ByteArray.size s0) : Int) < 400))
  (obind (byteAt s0 0) fun n11 =>
    lif (n11 == 1)
      (lbind (Proofs.Ytflhogapjmdkaaa.X.f23 k 300 (ByteArray.mk #[104, 97, 109, 112, 101, 114, 32]) L) fun v12 L13 =>
        obind (asS v12) fun s14 =>
          lif (ByteArray.toList s1 == ByteArray.toList s14)
            (lif (n2 == 0)
              (lif (n3 == 62)
                (lif (n4 == 62)
                  (lif (n5 == 4)
                    (lif (n6 == 4)
                      (lif (n7 == 4)
                        (lif (n8 == 62) (lif (ByteArray.toList s9 == ByteArray.toList (ByteArray.mk #[])) (some (LR.ret (Value.bool (n10 == 0)) L13)) (some (LR.ret (Value.bool false) L13)))
                          (some (LR.ret (Value.bool false) L13)))
                        (some (LR.ret (Value.bool false) L13)))
                      (some (LR.ret (Value.bool false) L13)))
                    (some (LR.ret (Value.bool false) L13)))
                  (some (LR.ret (Value.bool false) L13)))
                (some (LR.ret (Value.bool false) L13)))
              (some (LR.ret (Value.bool false) L13)))
            (some (LR.ret (Value.bool false) L13)))
      (some (LR.ret (Value.bool false) L)))
  (some (LR.ret (Value.bool false) L)) := by kernel_rfl
end Go.Proofs.Ytflhogapjmdkaaa.X
end

section
namespace Go.Rlm
/-- n bytes at two places are alike; so many may follow. -/
def alikeN (b : List Nat) (i f : Nat) : Nat → Nat → Nat
  | 0, n => n
  | m + 1, n => if b[i + n]? = b[f + n]? then alikeN b i f m (n + 1) else n
def alike (b : List Nat) (i f : Nat) : Nat := alikeN b i f (min 258 (b.length - i)) 0
theorem alikeN_le (b : List Nat) (i f : Nat) : ∀ m n, alikeN b i f m n ≤ n + m
  | 0, n => Nat.le_refl _
  | m + 1, n => by
    unfold alikeN
    split
    · have := alikeN_le b i f m (n + 1); omega
    · omega
theorem alikeN_ge (b : List Nat) (i f : Nat) : ∀ m n, n ≤ alikeN b i f m n
  | 0, n => Nat.le_refl _
  | m + 1, n => by
    unfold alikeN
    split
    · have := alikeN_ge b i f m (n + 1); omega
    · omega
theorem alikeN_iff (b : List Nat) (i f : Nat) : ∀ m n k, k ≤ m → (n + k ≤ alikeN b i f m n ↔ ∀ q, q < k → b[i + n + q]? = b[f + n + q]?)
  | m, n, 0, _ => ⟨fun _ q hq => by omega, fun _ => alikeN_ge b i f m n⟩
  | 0, n, k + 1, h => by omega
  | m + 1, n, k + 1, h => by
    unfold alikeN
    by_cases he : b[i + n]? = b[f + n]?
    · rw [if_pos he]
      have ih := alikeN_iff b i f m (n + 1) k (by omega)
      rw [show n + 1 + k = n + (k + 1) by omega] at ih
      rw [ih]
      constructor
      · intro h q hq
        cases q with
        | zero => simpa using he
        | succ q => have := h q (by omega); rwa [show i + (n + 1) + q = i + n + (q + 1) by omega, show f + (n + 1) + q = f + n + (q + 1) by omega] at this
      · intro h q hq
        have := h (q + 1) (by omega); rwa [show i + (n + 1) + q = i + n + (q + 1) by omega, show f + (n + 1) + q = f + n + (q + 1) by omega]
    · rw [if_neg he]
      constructor
      · intro h; omega
      · intro h; exact absurd (by simpa using h 0 (by omega)) he
theorem alike_le (b : List Nat) (i f : Nat) : alike b i f ≤ min 258 (b.length - i) := by
  have := alikeN_le b i f (min 258 (b.length - i)) 0
  unfold alike; omega
theorem alike_iff (b : List Nat) (i f k : Nat) (hk : k ≤ min 258 (b.length - i)) : k ≤ alike b i f ↔ ∀ q, q < k → b[i + q]? = b[f + q]? := by
  have := alikeN_iff b i f (min 258 (b.length - i)) 0 k hk
  simpa [alike] using this
/-- The three bytes at a place. -/
def key3 (b : List Nat) (p : Nat) : List Nat := (b.drop p).take 3
theorem key3_get (b : List Nat) (p q : Nat) : (key3 b p)[q]? = if q < 3 then b[p + q]? else none := by
  rw [key3, List.getElem?_take, List.getElem?_drop]
theorem key3_iff (b : List Nat) (i f : Nat) : key3 b i = key3 b f ↔ ∀ q, q < 3 → b[i + q]? = b[f + q]? := by
  constructor
  · intro h q hq
    have h1 := key3_get b i q
    have h2 := key3_get b f q
    rw [if_pos hq] at h1 h2
    rw [← h1, ← h2, h]
  · intro h
    apply List.ext_getElem?
    intro q
    rw [key3_get, key3_get]
    split
    · exact h q (by assumption)
    · rfl
theorem key3_alike (b : List Nat) (i f : Nat) (hi : i + 3 ≤ b.length) : key3 b f = key3 b i ↔ 3 ≤ alike b i f := by
  rw [alike_iff b i f 3 (by omega), ← key3_iff]
  exact eq_comm
/-- Over places ahead, m of them: the longest one, of those the nearest. -/
def scan (b : List Nat) (i : Nat) : Nat → Nat × Nat → Nat × Nat
  | 0, r => r
  | m + 1, r => if 32768 < i - m then r else scan b i m (if 3 ≤ alike b i m ∧ r.1 < alike b i m then (alike b i m, i - m) else r)
def longest (b : List Nat) (i : Nat) : Nat × Nat := scan b i i (0, 0)
/-- The same over places in a row, az long az it may get better. -/
def pickM (b : List Nat) (i : Nat) : List Nat → Nat × Nat → Nat × Nat
  | [], r => r
  | f :: fs, r =>
    if i ≤ f then pickM b i fs r
    else if 32768 < i - f then r
    else
      let r' := if r.1 < alike b i f then (alike b i f, i - f) else r
      if r'.1 < 258 then pickM b i fs r' else r'
theorem pickM_far (b : List Nat) (i : Nat) : ∀ (l : List Nat) (r : Nat × Nat), (∀ f ∈ l, f < i ∧ 32768 < i - f) → pickM b i l r = r
  | [], r, _ => rfl
  | f :: fs, r, h => by
    obtain ⟨h1, h2⟩ := h f (by simp)
    unfold pickM
    rw [if_neg (by omega), if_pos h2]
theorem pickM_ahead (b : List Nat) (i : Nat) : ∀ (l l' : List Nat) (r : Nat × Nat), (∀ f ∈ l, i ≤ f) → pickM b i (l ++ l') r = pickM b i l' r
  | [], l', r, _ => rfl
  | f :: fs, l', r, h => by
    rw [List.cons_append, pickM, if_pos (h f (by simp))]
    exact pickM_ahead b i fs l' r fun g hg => h g (by simp [hg])
theorem scan_full (b : List Nat) (i : Nat) : ∀ (m : Nat) (r : Nat × Nat), min 258 (b.length - i) ≤ r.1 → scan b i m r = r
  | 0, r, _ => rfl
  | m + 1, r, h => by
    unfold scan
    split
    · rfl
    · have := alike_le b i m
      rw [if_neg (by omega)]
      exact scan_full b i m r h
theorem range_filter_succ (p : Nat → Bool) (m : Nat) : ((List.range (m + 1)).filter p).reverse = (if p m then [m] else []) ++ ((List.range m).filter p).reverse := by
  rw [List.range_succ, List.filter_append, List.reverse_append]
  congr 1
  simp only [List.filter_cons, List.filter_nil]
  split <;> simp
theorem pickM_scan (b : List Nat) (i : Nat) (hi : i + 3 ≤ b.length) : ∀ (m : Nat) (r : Nat × Nat), m ≤ i → r.1 < 258 →
    pickM b i ((List.range m).filter fun p => decide (key3 b p = key3 b i)).reverse r = scan b i m r
  | 0, r, _, _ => rfl
  | m + 1, r, hm, hr => by
    rw [range_filter_succ]
    unfold scan
    by_cases hk : key3 b m = key3 b i
    · rw [if_pos (decide_eq_true hk), List.singleton_append]
      have h3 := (key3_alike b i m hi).1 hk
      unfold pickM
      rw [if_neg (by omega)]
      by_cases hw : 32768 < i - m
      · rw [if_pos hw, if_pos hw]
      · rw [if_neg hw, if_neg hw]
        simp only [h3, true_and]
        by_cases hb : r.1 < alike b i m
        · simp only [hb, if_true]
          by_cases h8 : alike b i m < 258
          · rw [if_pos h8]
            exact pickM_scan b i hi m _ (by omega) h8
          · rw [if_neg h8]
            exact (scan_full b i m _ (by simp only; omega)).symm
        · simp only [hb, if_false]
          rw [if_pos hr]
          exact pickM_scan b i hi m _ (by omega) hr
    · rw [if_neg (by simpa using hk), List.nil_append]
      have h3 : ¬ 3 ≤ alike b i m := fun h => hk ((key3_alike b i m hi).2 h)
      by_cases hw : 32768 < i - m
      · rw [if_pos hw]
        refine pickM_far b i _ r fun f hf => ?_
        have := (List.mem_filter.1 (List.mem_reverse.1 hf)).1
        have := List.mem_range.1 this
        omega
      · rw [if_neg hw, if_neg (fun h => h3 h.1)]
        exact pickM_scan b i hi m r (by omega) hr
/-- Places known so far, by their three bytes. -/
def placesAt (b : List Nat) (k : List Nat) (n : Nat) : List Nat := (List.range n).filter fun p => decide (key3 b p = k)
theorem pickM_longest (b : List Nat) (i n : Nat) (hi : i + 3 ≤ b.length) (hn : i ≤ n) : pickM b i (placesAt b (key3 b i) n).reverse (0, 0) = longest b i := by
  obtain ⟨d, rfl⟩ : ∃ d, n = i + d := ⟨n - i, by omega⟩
  unfold longest placesAt
  rw [List.range_add, List.filter_append, List.reverse_append, pickM_ahead]
  · exact pickM_scan b i hi i (0, 0) (Nat.le_refl _) (by decide)
  · intro f hf
    have := (List.mem_filter.1 (List.mem_reverse.1 hf)).1
    obtain ⟨x, _, rfl⟩ := List.mem_map.1 this
    omega
theorem placesAt_succ_same (b : List Nat) (n : Nat) : placesAt b (key3 b n) (n + 1) = placesAt b (key3 b n) n ++ [n] := by
  simp [placesAt, List.range_succ, List.filter_append]
theorem placesAt_succ_ne (b : List Nat) (k : List Nat) (n : Nat) (h : key3 b n ≠ k) : placesAt b k (n + 1) = placesAt b k n := by
  simp [placesAt, List.range_succ, List.filter_append, h]
theorem placesAt_length (b : List Nat) (k : List Nat) (n : Nat) : (placesAt b k n).length ≤ n := by
  have := List.length_filter_le (fun p => decide (key3 b p = k)) (List.range n)
  simpa [placesAt] using this
theorem placesAt_lt (b : List Nat) (k : List Nat) (n : Nat) : ∀ p ∈ placesAt b k n, p < n := fun p hp => by
  have := (List.mem_filter.1 hp).1
  simpa using this
theorem scan_ok (b : List Nat) (i : Nat) : ∀ (m : Nat) (r : Nat × Nat), m ≤ i → (r = (0, 0) ∨ (3 ≤ r.1 ∧ r.1 ≤ min 258 (b.length - i) ∧ 1 ≤ r.2 ∧ r.2 ≤ i ∧ r.2 ≤ 32768 ∧ r.1 ≤ alike b i (i - r.2))) →
    (scan b i m r = (0, 0) ∨ (3 ≤ (scan b i m r).1 ∧ (scan b i m r).1 ≤ min 258 (b.length - i) ∧ 1 ≤ (scan b i m r).2 ∧ (scan b i m r).2 ≤ i ∧ (scan b i m r).2 ≤ 32768 ∧ (scan b i m r).1 ≤ alike b i (i - (scan b i m r).2)))
  | 0, r, _, h => h
  | m + 1, r, hm, h => by
    unfold scan
    split
    · exact h
    · refine scan_ok b i m _ (by omega) ?_
      split
      · rename_i hc
        have := alike_le b i m
        exact .inr ⟨hc.1, this, by simp only; omega, by simp only; omega, by simp only; omega, by simp only; rw [show i - (i - m) = m by omega]; exact Nat.le_refl _⟩
      · exact h
theorem longest_ok (b : List Nat) (i : Nat) : longest b i = (0, 0) ∨ (3 ≤ (longest b i).1 ∧ (longest b i).1 ≤ min 258 (b.length - i) ∧ 1 ≤ (longest b i).2 ∧ (longest b i).2 ≤ i ∧ (longest b i).2 ≤ 32768 ∧ (longest b i).1 ≤ alike b i (i - (longest b i).2)) :=
  scan_ok b i i (0, 0) (Nat.le_refl _) (.inl rfl)
theorem longest_none (b : List Nat) (i : Nat) (h : b.length < i + 3) : longest b i = (0, 0) := by
  rcases longest_ok b i with h1 | ⟨h1, h2, _⟩
  · exact h1
  · omega
/-- The nearest one that reaches the end of what may be. -/
theorem scan_first (b : List Nat) (i f : Nat) (hf : i - f ≤ 32768) (h3 : 3 ≤ min 258 (b.length - i)) (ha : alike b i f = min 258 (b.length - i)) : ∀ (m : Nat) (r : Nat × Nat), f < m → m ≤ i → r.1 < min 258 (b.length - i) →
    (∀ g, f < g → g < m → alike b i g < min 258 (b.length - i)) → scan b i m r = (min 258 (b.length - i), i - f)
  | 0, r, h, _, _, _ => by omega
  | m + 1, r, h, hm, hr, hg => by
    unfold scan
    rw [if_neg (by omega)]
    rcases Nat.lt_or_ge f m with h1 | h1
    · refine scan_first b i f hf h3 ha m _ h1 (by omega) ?_ fun g g1 g2 => hg g g1 (by omega)
      split
      · exact hg m h1 (by omega)
      · exact hr
    · have : f = m := by omega
      subst this
      rw [ha, if_pos ⟨h3, hr⟩]
      exact scan_full b i f _ (Nat.le_refl _)
theorem longest_first (b : List Nat) (i f : Nat) (hfi : f < i) (hf : i - f ≤ 32768) (h3 : 3 ≤ min 258 (b.length - i)) (ha : alike b i f = min 258 (b.length - i))
    (hg : ∀ g, f < g → g < i → alike b i g < min 258 (b.length - i)) : longest b i = (min 258 (b.length - i), i - f) :=
  scan_first b i f hf h3 ha i (0, 0) hfi (Nat.le_refl _) (by simp only; omega) hg
theorem scan_zero (b : List Nat) (i : Nat) : ∀ (m : Nat), (∀ g, g < m → alike b i g < 3) → scan b i m (0, 0) = (0, 0)
  | 0, _ => rfl
  | m + 1, h => by
    unfold scan
    split
    · rfl
    · rw [if_neg (by have := h m (by omega); omega)]
      exact scan_zero b i m fun g hg => h g (by omega)
theorem longest_zero (b : List Nat) (i : Nat) (h : ∀ g, g < i → alike b i g < 3) : longest b i = (0, 0) := scan_zero b i i h
/-- Where a distance stands in the row. -/
def slotOf (row : List Int) (d : Int) : Option Nat := row.findIdx? (· == d)
/-- The row, with a distance at its front. -/
def frontR (row : List Int) (d : Int) : List Int := d :: row.eraseIdx ((slotOf row d).getD 3)
theorem frontR_length {row : List Int} (h : row.length = 4) (d : Int) : (frontR row d).length = 4 := by
  unfold frontR slotOf
  cases hs : row.findIdx? (· == d) with
  | none => simp [List.length_eraseIdx, h]
  | some i =>
    have : i < row.length := by
      have := List.findIdx?_eq_some_iff_getElem.1 hs
      exact this.1
    rw [h] at this
    simp [List.length_eraseIdx, this, h]
def tokAt (row : List Int) (n d : Nat) : Tok :=
  match slotOf row (d : Int) with
  | some s => ⟨3, 0, (n : Int), 0, (s : Int)⟩
  | none => ⟨2, 0, (n : Int), (d : Int), 0⟩
def findT (b : List Nat) : Nat → Nat → List Int → List Tok
  | 0, _, _ => []
  | q + 1, i, row =>
    if i < b.length then
      if (longest b i).1 = 0 ∨ (longest b i).1 < (longest b (i + 1)).1 then ⟨1, (b.getD i 0 : Nat), 0, 0, 0⟩ :: findT b q (i + 1) row
      else tokAt row (longest b i).1 (longest b i).2 :: findT b q (i + (longest b i).1) (frontR row ((longest b i).2 : Nat))
    else []
/-- The tokens of a text. -/
def findToks (b : List Nat) : List Tok := findT b b.length 0 [0, 0, 0, 0]
theorem findT_length (b : List Nat) : ∀ (q i : Nat) (row : List Int), (findT b q i row).length ≤ q
  | 0, _, _ => Nat.zero_le _
  | q + 1, i, row => by
    unfold findT
    split
    · split
      · have := findT_length b q (i + 1) row; simp; omega
      · have := findT_length b q (i + (longest b i).1) (frontR row ((longest b i).2 : Nat)); simp; omega
    · simp
theorem slotOf_lt {row : List Int} {d : Int} {s : Nat} (h : slotOf row d = some s) : s < row.length := (List.findIdx?_eq_some_iff_getElem.1 h).1
theorem tokAt_ok {row : List Int} (hrow : row.length = 4) {n d : Nat} (hn : 3 ≤ n ∧ n ≤ 258) (hd : 1 ≤ d ∧ d ≤ 32768) : tokShape (tokAt row n d) = true ∧ (tokAt row n d).wf := by
  unfold tokAt
  split
  · rename_i s hs
    have := slotOf_lt hs
    refine ⟨?_, ?_⟩
    · simp [tokShape, isLong]; omega
    · simp [Tok.wf]
  · refine ⟨?_, ?_⟩
    · simp [tokShape, isLong]; omega
    · simp [Tok.wf]
theorem findT_ok (b : List Nat) (hb : ∀ x ∈ b, x < 256) : ∀ (q i : Nat) (row : List Int), row.length = 4 → ∀ t ∈ findT b q i row, tokShape t = true ∧ t.wf
  | 0, _, _, _, t, ht => by cases ht
  | q + 1, i, row, hrow, t, ht => by
    unfold findT at ht
    split at ht
    · rename_i hi
      split at ht
      · rcases List.mem_cons.1 ht with rfl | ht
        · have : b.getD i 0 < 256 := by
            rw [List.getD_eq_getElem?_getD, List.getElem?_eq_getElem hi]
            exact hb _ (List.getElem_mem hi)
          refine ⟨?_, ?_⟩
          · simp [tokShape]
          · rw [List.getD_eq_getElem?_getD] at this; simp [Tok.wf]; omega
        · exact findT_ok b hb q _ row hrow t ht
      · rename_i hn
        rcases List.mem_cons.1 ht with rfl | ht
        · rcases longest_ok b i with h0 | ⟨h1, h2, h3, h4, h5, _⟩
          · exact absurd (.inl (by rw [h0])) hn
          · exact tokAt_ok hrow ⟨h1, by omega⟩ ⟨h3, h5⟩
        · exact findT_ok b hb q _ _ (frontR_length hrow _) t ht
    · cases ht
theorem findToks_fit {b : List Nat} (hb : ∀ x ∈ b, x < 256) (hs : b.length ≤ 1048576) : Fit (findToks b) :=
  ⟨Nat.le_trans (findT_length b _ _ _) hs, fun t ht => (findT_ok b hb _ _ _ rfl t ht).2⟩
theorem findToks_shape {b : List Nat} (hb : ∀ x ∈ b, x < 256) : ∀ t ∈ findToks b, tokShape t = true := fun t ht => (findT_ok b hb _ _ _ rfl t ht).1
/-- From place i on, each byte is the one p places ahead. -/
def Again (b : List Nat) (p : Nat) : Prop := ∀ i, p ≤ i → b[i]? = b[i - p]? ∨ b.length ≤ i
theorem again_alike {b : List Nat} {p i : Nat} (h : Again b p) (hp : p ≤ i) : alike b i (i - p) = min 258 (b.length - i) := by
  refine Nat.le_antisymm (alike_le _ _ _) ?_
  rw [alike_iff b i (i - p) _ (Nat.le_refl _)]
  intro q hq
  rcases h (i + q) (by omega) with h1 | h1
  · rw [h1, show i + q - p = i - p + q by omega]
  · omega
end Go.Rlm
namespace Go.Rlm
/-- No two of p bytes behind one another are alike. -/
def Unlike (b : List Nat) (p : Nat) : Prop := ∀ i g, g < i → i < g + p → i < b.length → b[i]? ≠ b[g]?
/-- Its longest matches. -/
def lng (b : List Nat) (p i : Nat) : Nat × Nat := if i < p ∨ b.length < i + 3 then (0, 0) else (min 258 (b.length - i), p)
theorem alike_zero {b : List Nat} {i g : Nat} (h : b[i]? ≠ b[g]?) (hi : i < b.length) : alike b i g = 0 := by
  have := alike_iff b i g 1 (by omega)
  by_cases h1 : 1 ≤ alike b i g
  · exact absurd (by simpa using this.1 h1 0 (by omega)) h
  · omega
theorem longest_lng {b : List Nat} {p : Nat} (h : Again b p) (hu : Unlike b p) (hp0 : 0 < p) (hp : p ≤ 32768) (i : Nat) : longest b i = lng b p i := by
  unfold lng
  by_cases h3 : b.length < i + 3
  · rw [if_pos (.inr h3), longest_none b i h3]
  · by_cases hi : i < p
    · rw [if_pos (.inl hi)]
      refine longest_zero b i fun g hg => ?_
      rw [alike_zero (hu i g hg (by omega) (by omega)) (by omega)]; omega
    · rw [if_neg (by omega)]
      have := longest_first b i (i - p) (by omega) (by omega) (by omega) (again_alike h (by omega)) (fun g g1 g2 => by
        rw [alike_zero (hu i g g2 (by omega) (by omega)) (by omega)]; omega)
      rw [this, show i - (i - p) = p by omega]
/-- Tokens, out of what the longest matches are said to be. -/
def findW (b : List Nat) (w : Nat → Nat × Nat) : Nat → Nat → List Int → List Tok
  | 0, _, _ => []
  | q + 1, i, row =>
    if i < b.length then
      if (w i).1 = 0 ∨ (w i).1 < (w (i + 1)).1 then ⟨1, (b.getD i 0 : Nat), 0, 0, 0⟩ :: findW b w q (i + 1) row
      else tokAt row (w i).1 (w i).2 :: findW b w q (i + (w i).1) (frontR row ((w i).2 : Nat))
    else []
theorem findT_findW {b : List Nat} {w : Nat → Nat × Nat} (h : ∀ i, longest b i = w i) : ∀ (q i : Nat) (row : List Int), findT b q i row = findW b w q i row
  | 0, _, _ => rfl
  | q + 1, i, row => by
    unfold findT findW
    rw [h i, h (i + 1), findT_findW h, findT_findW h]
/-- A text so often. -/
def repL (n : Nat) (b : List Nat) : List Nat := (List.replicate n b).flatten
theorem repL_length (n : Nat) (b : List Nat) : (repL n b).length = n * b.length := by simp [repL, List.length_flatten]
theorem repL_succ (n : Nat) (b : List Nat) : repL (n + 1) b = b ++ repL n b := by simp [repL, List.replicate_succ]
theorem repL_get (b : List Nat) : ∀ (n i : Nat), i < n * b.length → (repL n b)[i]? = b[i % b.length]?
  | 0, i, h => by omega
  | n + 1, i, h => by
    rw [repL_succ]
    by_cases hi : i < b.length
    · rw [List.getElem?_append_left hi, Nat.mod_eq_of_lt hi]
    · rw [List.getElem?_append_right (by omega), repL_get b n (i - b.length) (by rw [Nat.add_mul] at h; omega)]
      congr 1
      exact (Nat.mod_eq_sub_mod (by omega)).symm
theorem repL_again (n : Nat) (b : List Nat) : Again (repL n b) b.length := by
  intro i hi
  by_cases h : i < n * b.length
  · left
    rw [repL_get b n i h, repL_get b n (i - b.length) (by omega), ← Nat.mod_eq_sub_mod hi]
  · right; rw [repL_length]; omega
theorem repL_unlike {n : Nat} {b : List Nat} (hb : b.Nodup) (h0 : 0 < b.length) : Unlike (repL n b) b.length := by
  intro i g hg hp hi
  rw [repL_length] at hi
  rw [repL_get b n i hi, repL_get b n g (by omega)]
  intro he
  have h1 : i % b.length < b.length := Nat.mod_lt _ h0
  have h2 : g % b.length < b.length := Nat.mod_lt _ h0
  rw [List.getElem?_eq_getElem h1, List.getElem?_eq_getElem h2] at he
  have he' : b[i % b.length] = b[g % b.length] := by simpa using he
  have hpw := List.pairwise_iff_getElem.1 hb
  have : i % b.length = g % b.length := by
    rcases Nat.lt_trichotomy (i % b.length) (g % b.length) with h | h | h
    · exact absurd he' (hpw _ _ h1 h2 h)
    · exact h
    · exact absurd he'.symm (hpw _ _ h2 h1 h)
  have e1 := Nat.div_add_mod i b.length
  have e2 := Nat.div_add_mod g b.length
  rcases Nat.lt_trichotomy (i / b.length) (g / b.length) with h | h | h
  · have := Nat.mul_le_mul_left b.length h
    rw [Nat.succ_eq_add_one, Nat.mul_add] at this
    omega
  · rw [h] at e1; omega
  · have := Nat.mul_le_mul_left b.length h
    rw [Nat.succ_eq_add_one, Nat.mul_add] at this
    omega
theorem findToks_rep {n : Nat} {b : List Nat} (hb : b.Nodup) (h0 : 0 < b.length) (hp : b.length ≤ 32768) : findToks (repL n b) = findW (repL n b) (lng (repL n b) b.length) (repL n b).length 0 [0, 0, 0, 0] :=
  findT_findW (longest_lng (repL_again n b) (repL_unlike hb h0) h0 hp) _ _ _
end Go.Rlm
end

section
set_option maxRecDepth 100000
set_option linter.unusedVariables false
namespace Go.Proofs.Ytflhogapjmdkaaa.X
open Go Go.Rlm
theorem cellv {L : LHeap} {b o : Nat} {cs : List Value} {e : TypeId} {ro : Bool} {sp : Nat} {v : Value} (h : L[b]? = some (.cells cs e ro sp)) (hv : cs[o]? = some v) : cell L ⟨b, o, none⟩ = some v := by
  rw [cell_of h, hv]
theorem bytesL_len (s : ByteArray) : (bytesL s).length = s.size := by simp [bytesL]
theorem bytesL_lt (s : ByteArray) : ∀ x ∈ bytesL s, x < 256 := fun x hx => by
  obtain ⟨u, _, rfl⟩ := List.mem_map.1 hx
  exact u.toNat_lt
theorem byteAt_some {s : ByteArray} {i : Nat} (h : i < s.size) : byteAt s (i : Int) = some (((bytesL s).getD i 0 : Nat) : Int) ∧ (bytesL s)[i]? = some ((bytesL s).getD i 0) := by
  obtain ⟨b, h1, h2, h3⟩ := bytesL_at h
  rw [List.getD_eq_getElem?_getD, h1]
  exact ⟨h2, rfl⟩
theorem alike_loop {k r i f most : Nat} {s : ByteArray} {vs : List Value} {e : TypeId} {L : LHeap} (hr : L[r]? = some (.cells (.string s :: vs) e false 0)) (hf : f < i) (hm : i + most ≤ s.size) (hs : s.size < 2 ^ 40) :
    ∀ (m n j : Nat), n + m = most → m < j → f87_l3 k j (some ⟨r, 0, none⟩) (i : Int) (f : Int) (most : Int) (n : Int) L = some (.ret (.int .i64 (alikeN (bytesL s) i f m n : Nat)) L) := by
  have c0 : cell L ⟨r, 0, none⟩ = some (.string s) := cellv hr rfl
  intro m
  induction m with
  | zero =>
    intro n j hn hj
    obtain ⟨j, rfl⟩ : ∃ j', j = j' + 1 := ⟨j - 1, by omega⟩
    rw [f87_l3_eq, decide_eq_false (by omega), lif_false]
    rfl
  | succ m ih =>
    intro n j hn hj
    obtain ⟨j, rfl⟩ : ∃ j', j = j' + 1 := ⟨j - 1, by omega⟩
    obtain ⟨g1, g2⟩ := byteAt_some (s := s) (i := i + n) (by omega)
    obtain ⟨g3, g4⟩ := byteAt_some (s := s) (i := f + n) (by omega)
    rw [f87_l3_eq, decide_eq_true (by omega), lif_true]
    simp only [obind_some, mk_add, c0, Option.bind_some, asS_string]
    rw [wI64 (by omega) (by omega), wI64 (by omega) (by omega), show (i : Int) + (n : Int) = ((i + n : Nat) : Int) by omega, show (f : Int) + (n : Int) = ((f + n : Nat) : Int) by omega, g1, g3, obind_some, obind_some]
    unfold alikeN
    rw [g2, g4]
    by_cases he : (bytesL s).getD (i + n) 0 = (bytesL s).getD (f + n) 0
    · rw [he, beq_self_eq_true, lif_true, if_pos rfl, wI64 (by omega) (by omega)]
      exact ih (n + 1) j (by omega) (by omega)
    · rw [show ((((bytesL s).getD (i + n) 0 : Nat) : Int) == (((bytesL s).getD (f + n) 0 : Nat) : Int)) = false by simp only [beq_eq_false_iff_ne, ne_eq]; omega, lif_false, if_neg (by simpa using he)]
theorem alike_ok {k r i f : Nat} {s : ByteArray} {vs : List Value} {e : TypeId} {L : LHeap} (hr : L[r]? = some (.cells (.string s :: vs) e false 0)) (hf : f < i) (hi : i ≤ s.size) (hs : s.size < 2 ^ 40) (hk : 300 ≤ k) :
    f87 k (some ⟨r, 0, none⟩) (i : Int) (f : Int) L = some (.ret (.int .i64 (alike (bytesL s) i f : Nat)) L) := by
  obtain ⟨k, rfl⟩ : ∃ k', k = k' + 1 := ⟨k - 1, by omega⟩
  have c0 : cell L ⟨r, 0, none⟩ = some (.string s) := cellv hr rfl
  rw [f87_eq]
  simp only [obind_some, mk_add, c0, Option.bind_some, asS_string, Bool.false_eq_true, if_false]
  rw [wI64 (by omega) (by omega)]
  have hmin : (if (s.size : Int) - (i : Int) < 258 then (s.size : Int) - (i : Int) else 258) = ((min 258 (s.size - i) : Nat) : Int) := by
    split <;> omega
  rw [hmin]
  have := alike_loop (k := k) hr hf (most := min 258 (s.size - i)) (by omega) hs (min 258 (s.size - i)) 0 k (by omega) (by omega)
  rw [show ((0 : Nat) : Int) = 0 from rfl] at this
  rw [this, alike, bytesL_len]
theorem strOf_take {s : ByteArray} {p : Nat} (h : p + 3 ≤ s.size) : subS s (some (p : Int)) (some (IntKind.wrap .i64 ((p : Int) + 3))) = some (strOf (key3 (bytesL s) p)) ∨ 2 ^ 40 ≤ s.size := by
  by_cases hs : s.size < 2 ^ 40
  · left
    rw [wI64 (by omega) (by omega), show (p : Int) + 3 = ((p + 3 : Nat) : Int) by omega]
    simp only [subS, bound_at s.size h, Option.bind_eq_bind, Option.bind_some, bound_at 0 (show p ≤ p + 3 by omega)]
    congr 1
    have e : bytesL (s.extract p (p + 3)) = key3 (bytesL s) p := by
      simp only [bytesL, key3, ByteArray.data_extract, Array.toList_extract, List.map_drop, List.map_take]
      simp [List.extract_eq_take_drop, List.map_take, List.map_drop]
    rw [← e, strOf_bytesL]
  · right; omega
theorem key_ok {k r p : Nat} {s : ByteArray} {vs : List Value} {e : TypeId} {L : LHeap} (hr : L[r]? = some (.cells (.string s :: vs) e false 0)) (hp : p + 3 ≤ s.size) (hs : s.size < 2 ^ 40) (hk : 1 ≤ k) :
    f89 k (some ⟨r, 0, none⟩) (p : Int) L = some (.ret (.string (strOf (key3 (bytesL s) p))) L) := by
  obtain ⟨k, rfl⟩ : ∃ k', k = k' + 1 := ⟨k - 1, by omega⟩
  have c0 : cell L ⟨r, 0, none⟩ = some (.string s) := cellv hr rfl
  rw [f89_eq]
  simp only [obind_some, mk_add, c0, Option.bind_some, asS_string]
  rcases strOf_take hp with h | h
  · rw [h, obind_some]
  · omega
/-- An entry: three bytes, the block of the places, the stamp. -/
abbrev Ent := List Nat × Nat × Nat
def entV (b : List Nat) (known : Nat) (e : Ent) : Value × Value × Nat := (.string (strOf e.1), .slice (some ⟨e.2.1, 0, none⟩) (placesAt b e.1 known).length OPEN, e.2.2)
def placesV (b : List Nat) (k : List Nat) (known : Nat) : List Value := (placesAt b k known).map fun (p : Nat) => iV (p : Int)
structure FIs (L : LHeap) (r mr : Nat) (s : ByteArray) (known : Nat) (es : List Ent) (ck : Nat) : Prop where
  at_r : L[r]? = some (.cells [.string s, .map (some mr), .int .i64 known] 114 false 0)
  at_m : L[mr]? = some (.map (es.map (entV (bytesL s) known)) ck)
  at_e : ∀ e ∈ es, L[e.2.1]? = some (.cells (placesV (bytesL s) e.1 known) 3 false 1)
  keys : (es.map (·.1)).Nodup
  blks : (es.map (·.2.1)).Nodup
  all : ∀ p, p < known → key3 (bytesL s) p ∈ es.map (·.1)
  small : ∀ e ∈ es, ∀ x ∈ e.1, x < 256
  ne : r ≠ mr ∧ r ∉ es.map (·.2.1) ∧ mr ∉ es.map (·.2.1)
  known_le : known ≤ s.size
/-- A finder at r; it owns the blocks F. -/
def FI (L : LHeap) (r : Nat) (s : ByteArray) (known : Nat) (F : List Nat) : Prop := ∃ mr es ck, FIs L r mr s known es ck ∧ F = r :: mr :: es.map (·.2.1)
theorem FIs.mono {L L' : LHeap} {r mr known ck : Nat} {s : ByteArray} {es : List Ent} (h : FIs L r mr s known es ck) (hk : ∀ i ∈ r :: mr :: es.map (·.2.1), L'[i]? = L[i]?) : FIs L' r mr s known es ck :=
  ⟨by rw [hk r (by simp), h.at_r], by rw [hk mr (by simp), h.at_m], fun e he => by rw [hk e.2.1 (by simp; exact .inr (.inr ⟨_, _, he⟩)), h.at_e e he], h.keys, h.blks, h.all, h.small, h.ne, h.known_le⟩
theorem FI.mono {L L' : LHeap} {r known : Nat} {s : ByteArray} {F : List Nat} (h : FI L r s known F) (hk : ∀ i ∈ F, L'[i]? = L[i]?) : FI L' r s known F := by
  obtain ⟨mr, es, ck, h, rfl⟩ := h
  exact ⟨mr, es, ck, h.mono hk, rfl⟩
theorem FI.within {L : LHeap} {r known : Nat} {s : ByteArray} {F : List Nat} (h : FI L r s known F) : Within F L := by
  obtain ⟨mr, es, ck, h, rfl⟩ := h
  intro i hi
  rcases List.mem_cons.1 hi with rfl | hi
  · exact get_lt h.at_r
  · rcases List.mem_cons.1 hi with rfl | hi
    · exact get_lt h.at_m
    · obtain ⟨e, he, rfl⟩ := List.mem_map.1 hi
      exact get_lt (h.at_e e he)
theorem sameNow_strOf {a b : List Nat} (ha : ∀ x ∈ a, x < 256) (hb : ∀ x ∈ b, x < 256) : Instr.sameNow .string (.string (strOf a)) (.string (strOf b)) = some (decide (a = b)) := by
  simp only [Instr.sameNow, Option.some.injEq]
  rw [Bool.eq_iff_iff, MapKept.bytes_beq, decide_eq_true_iff]
  constructor
  · intro h
    have := congrArg bytesL h
    rwa [bytesL_strOf ha, bytesL_strOf hb] at this
  · intro h; rw [h]
theorem mfind_none {b : List Nat} {known : Nat} {K : List Nat} (hK : ∀ x ∈ K, x < 256) : ∀ (es : List Ent) (i : Nat), (∀ e ∈ es, ∀ x ∈ e.1, x < 256) → K ∉ es.map (·.1) → mfind .string (.string (strOf K)) (es.map (entV b known)) i = some none
  | [], i, _, _ => rfl
  | e :: es, i, hs, hn => by
    have hne : ¬ K = e.1 := fun h => hn (by simp [h])
    simp only [List.map_cons, mfind, entV, sameNow_strOf hK (hs e (by simp)), hne, decide_false]
    exact mfind_none hK es (i + 1) (fun x hx => hs x (by simp [hx])) fun h => hn (by simp at h ⊢; exact .inr h)
theorem mfind_at {b : List Nat} {known : Nat} {K : List Nat} {c st : Nat} (hK : ∀ x ∈ K, x < 256) : ∀ (pre post : List Ent) (i : Nat), (∀ e ∈ pre, ∀ x ∈ e.1, x < 256) → K ∉ pre.map (·.1) →
    mfind .string (.string (strOf K)) ((pre ++ (K, c, st) :: post).map (entV b known)) i = some (some (i + pre.length, (entV b known (K, c, st)).2))
  | [], post, i, _, _ => by
    simp only [List.nil_append, List.map_cons, mfind, entV, sameNow_strOf hK hK, decide_true]
    rfl
  | e :: pre, post, i, hs, hn => by
    have hne : ¬ K = e.1 := fun h => hn (by simp [h])
    simp only [List.cons_append, List.map_cons, mfind]
    rw [show (entV b known e).1 = .string (strOf e.1) from rfl, sameNow_strOf hK (hs e (by simp))]
    simp only [hne, decide_false]
    rw [mfind_at hK pre post (i + 1) (fun x hx => hs x (by simp [hx])) fun h => hn (by simp at h ⊢; exact .inr h)]
    simp only [List.length_cons]
    rw [show i + 1 + pre.length = i + (pre.length + 1) by omega]
theorem placesAt_nil {b : List Nat} {K : List Nat} {known : Nat} (h : ∀ p, p < known → key3 b p ≠ K) : placesAt b K known = [] := by
  unfold placesAt
  rw [List.filter_eq_nil_iff]
  intro p hp
  simpa using h p (by simpa using hp)
theorem key3_small (s : ByteArray) (p : Nat) : ∀ x ∈ key3 (bytesL s) p, x < 256 := fun x hx => bytesL_lt s x (List.mem_of_mem_drop (List.mem_of_mem_take hx))
/-- What is looked up. -/
theorem FIs.look {L : LHeap} {r mr known ck : Nat} {s : ByteArray} {es : List Ent} (h : FIs L r mr s known es ck) {K : List Nat} (hK : ∀ x ∈ K, x < 256) :
    (K ∉ es.map (·.1) ∧ placesAt (bytesL s) K known = [] ∧ mlook .string (.string (strOf K)) (.slice none 0 0) (es.map (entV (bytesL s) known)) = some (.slice none 0 0, false)) ∨
    ∃ pre c st post, es = pre ++ (K, c, st) :: post ∧ K ∉ pre.map (·.1) ∧ K ∉ post.map (·.1) ∧
      mlook .string (.string (strOf K)) (.slice none 0 0) (es.map (entV (bytesL s) known)) = some (.slice (some ⟨c, 0, none⟩) (placesAt (bytesL s) K known).length OPEN, true) := by
  by_cases hm : K ∈ es.map (·.1)
  · right
    obtain ⟨e, he, hK'⟩ := List.mem_map.1 hm
    obtain ⟨pre, post, hes⟩ := List.append_of_mem he
    obtain ⟨K', c, st⟩ := e
    simp only at hK'
    subst hK'
    have hk := h.keys
    rw [hes, List.map_append, List.map_cons, List.nodup_append] at hk
    obtain ⟨k1, k2, k3⟩ := hk
    have hpre : K' ∉ pre.map (·.1) := fun hx => k3 _ hx _ (by simp) rfl
    refine ⟨pre, c, st, post, hes, hpre, (List.nodup_cons.1 k2).1, ?_⟩
    unfold mlook
    rw [hes, mfind_at hK pre post 0 (fun e he => h.small e (by rw [hes]; simp [he])) hpre]
    rfl
  · left
    refine ⟨hm, placesAt_nil fun p hp e => hm (e ▸ h.all p hp), ?_⟩
    unfold mlook
    rw [mfind_none hK es 0 h.small hm]
end Go.Proofs.Ytflhogapjmdkaaa.X
end

section
set_option maxRecDepth 100000
set_option linter.unusedVariables false
namespace Go.Proofs.Ytflhogapjmdkaaa.X
open Go Go.Rlm
theorem map_entV_ne {b : List Nat} {known : Nat} : ∀ {l : List Ent}, key3 b known ∉ l.map (·.1) → l.map (entV b (known + 1)) = l.map (entV b known)
  | [], _ => rfl
  | e :: l, h => by
    have h1 : key3 b known ≠ e.1 := fun q => h (by simp [q])
    simp only [List.map_cons]
    rw [map_entV_ne fun q => h (by simp at q ⊢; exact .inr q)]
    congr 1
    unfold entV
    rw [placesAt_succ_ne b e.1 known h1]
theorem learn_step {k j r mr known i ck : Nat} {s : ByteArray} {es : List Ent} {L : LHeap} (h : FIs L r mr s known es ck) (hi : known < i) (hk3 : known + 3 ≤ s.size) (hs : s.size < 2 ^ 40) (hk : 1 ≤ k) :
    ∃ L' es' ck', f85_l0 k (j + 1) (some ⟨r, 0, none⟩) (i : Int) L = f85_l0 k j (some ⟨r, 0, none⟩) (i : Int) L' ∧ FIs L' r mr s (known + 1) es' ck' ∧ Step (r :: mr :: es.map (·.2.1)) L (r :: mr :: es'.map (·.2.1)) L' := by
  have hK := key3_small s known
  obtain ⟨n1, n2, n3⟩ := h.ne
  have hrL := get_lt h.at_r
  have hmL := get_lt h.at_m
  -- what is looked up
  obtain ⟨l, F0, flag, a1, a2, a3, a4⟩ : ∃ (l : Sl) (F0 : List Nat) (flag : Bool), OS L l (placesV (bytesL s) (key3 (bytesL s) known) known) 3 F0 ∧ (∀ x ∈ F0, x ∈ es.map (·.2.1)) ∧
      mlook .string (.string (strOf (key3 (bytesL s) known))) (.slice none 0 0) (es.map (entV (bytesL s) known)) = some (.slice l.a l.n l.c, flag) ∧
      (∀ (c' : Nat) (v : Value), ∃ (es' : List Ent) (ck' : Nat), mput .string (.string (strOf (key3 (bytesL s) known))) v (es.map (entV (bytesL s) known)) ck = some ((es'.map fun e => if e.1 = key3 (bytesL s) known then ((Value.string (strOf e.1), v, e.2.2) : Value × Value × Nat) else entV (bytesL s) (known + 1) e), ck') ∧
        (∀ e ∈ es', (e ∈ es ∧ e.1 ≠ key3 (bytesL s) known ∧ e.2.1 ∉ F0) ∨ (e.1 = key3 (bytesL s) known ∧ e.2.1 = c')) ∧ (es'.map (·.1)).Nodup ∧ (∀ x, x ∈ es'.map (·.1) ↔ x ∈ es.map (·.1) ∨ x = key3 (bytesL s) known) ∧
        ((c' ∉ es.map (·.2.1) ∨ c' ∈ F0) → (es'.map (·.2.1)).Nodup)) := by
    rcases h.look hK with ⟨b1, b2, b3⟩ | ⟨pre, c, st, post, b1, b2, b3, b4⟩
    · refine ⟨⟨none, 0, 0⟩, [], false, ?_, by simp, b3, fun c' v => ⟨es ++ [(key3 (bytesL s) known, c', ck)], ck + 1, ?_, ?_, ?_, ?_, ?_⟩⟩
      · unfold placesV; rw [b2]; exact OS.nil L 3
      · unfold mput
        rw [mfind_none hK es 0 h.small b1]
        simp only [List.map_append, List.map_cons, List.map_nil, if_true]
        congr 2
        congr 1
        apply List.map_congr_left
        intro e he
        have hne : e.1 ≠ key3 (bytesL s) known := fun q => b1 (q ▸ List.mem_map_of_mem (f := (·.1)) he)
        rw [if_neg hne]
        unfold entV
        rw [placesAt_succ_ne _ _ _ hne.symm]
      · intro e he
        rcases List.mem_append.1 he with he | he
        · exact .inl ⟨he, fun q => b1 (q ▸ List.mem_map_of_mem (f := (·.1)) he), by simp⟩
        · simp at he; subst he; exact .inr ⟨rfl, rfl⟩
      · rw [List.map_append, List.nodup_append]
        exact ⟨h.keys, by simp, fun a ha b hb => by simp at hb; subst hb; exact fun q => b1 (q ▸ ha)⟩
      · intro x; simp
      · intro hc
        have hc : c' ∉ es.map (·.2.1) := by rcases hc with hc | hc; exact hc; cases hc
        rw [List.map_append, List.nodup_append]
        exact ⟨h.blks, by simp, fun a ha b hb => by simp at hb; subst hb; exact fun q => hc (q ▸ ha)⟩
    · have hkeys := h.keys
      have hblks := h.blks
      have hat := h.at_e (key3 (bytesL s) known, c, st) (by rw [b1]; simp)
      rw [b1, List.map_append, List.map_cons] at hkeys hblks
      refine ⟨⟨some ⟨c, 0, none⟩, (placesAt (bytesL s) (key3 (bytesL s) known) known).length, OPEN⟩, [c], true, .inr ⟨c, by simp [placesV], hat, rfl⟩, by rw [b1]; simp, b4, fun c' v => ⟨pre ++ (key3 (bytesL s) known, c', st) :: post, ck, ?_, ?_, ?_, ?_, ?_⟩⟩
      · unfold mput
        rw [b1, mfind_at hK pre post 0 (fun e he => h.small e (by rw [b1]; simp [he])) b2]
        show some (((pre ++ (key3 (bytesL s) known, c, st) :: post).map (entV (bytesL s) known)).set (0 + pre.length) (Value.string (strOf (key3 (bytesL s) known)), v, st), ck) = _
        rw [Nat.zero_add]
        congr 2
        have key : ∀ l : List Ent, key3 (bytesL s) known ∉ l.map (·.1) → (l.map fun e => if e.1 = key3 (bytesL s) known then ((Value.string (strOf e.1), v, e.2.2) : Value × Value × Nat) else entV (bytesL s) (known + 1) e) = l.map (entV (bytesL s) known) := fun l hl => by
          rw [← map_entV_ne hl]
          apply List.map_congr_left
          intro e he
          rw [if_neg (fun q : e.1 = key3 (bytesL s) known => hl (q ▸ List.mem_map_of_mem (f := (·.1)) he))]
        rw [List.map_append, List.map_append, List.map_cons, List.map_cons, key pre b2, key post b3, if_pos rfl, List.set_append_right _ _ (by simp)]
        simp
      · intro e he
        have sep : ∀ e, e ∈ pre ∨ e ∈ post → e.1 ≠ key3 (bytesL s) known ∧ e.2.1 ∉ [c] := fun e he => by
          obtain ⟨q1, q2, q3⟩ := List.nodup_append.1 hblks
          rcases he with he | he
          · exact ⟨fun q => b2 (q ▸ List.mem_map_of_mem (f := (·.1)) he), by simpa using q3 e.2.1 (List.mem_map_of_mem (f := (·.2.1)) he) c (by simp)⟩
          · refine ⟨fun q => b3 (q ▸ List.mem_map_of_mem (f := (·.1)) he), ?_⟩
            simp only [List.mem_singleton]
            intro q
            exact (List.nodup_cons.1 q2).1 (q ▸ List.mem_map_of_mem (f := (·.2.1)) he)
        rcases List.mem_append.1 he with he | he
        · exact .inl ⟨by rw [b1]; simp [he], sep e (.inl he)⟩
        · rcases List.mem_cons.1 he with rfl | he
          · exact .inr ⟨rfl, rfl⟩
          · exact .inl ⟨by rw [b1]; simp [he], sep e (.inr he)⟩
      · rw [List.map_append, List.map_cons]; exact hkeys
      · intro x
        rw [b1]
        simp only [List.map_append, List.map_cons, List.mem_append, List.mem_cons]
        constructor
        · intro q; exact .inl q
        · rintro (q | q)
          · exact q
          · exact .inr (.inl q)
      · intro hc
        rw [List.map_append, List.map_cons]
        obtain ⟨q1, q2, q3⟩ := List.nodup_append.1 hblks
        obtain ⟨q4, q5⟩ := List.nodup_cons.1 q2
        have hn : c' ∉ pre.map (·.2.1) ∧ c' ∉ post.map (·.2.1) := by
          rcases hc with hc | hc
          · rw [b1, List.map_append, List.map_cons] at hc
            simp only [List.mem_append, List.mem_cons, not_or] at hc
            exact ⟨hc.1, hc.2.2⟩
          · simp at hc; subst hc
            exact ⟨fun q => q3 _ q _ (by simp) rfl, q4⟩
        exact List.nodup_append.2 ⟨q1, List.nodup_cons.2 ⟨hn.2, q5⟩, fun a ha b hb => by
          rcases List.mem_cons.1 hb with rfl | hb
          · exact fun q => hn.1 (q ▸ ha)
          · exact q3 a ha b (by simp [hb])⟩
  -- the walk
  have c0 : cell L ⟨r, 0, none⟩ = some (.string s) := cellv h.at_r rfl
  have c1 : cell L ⟨r, 1, none⟩ = some (.map (some mr)) := cellv h.at_r rfl
  have c2 : cell L ⟨r, 2, none⟩ = some (.int .i64 known) := cellv h.at_r rfl
  rw [f85_l0_eq]
  simp only [size3, bytes3, obind_some, mk_add, Nat.zero_add, c0, c1, c2, Option.bind_some, asS_string, asI_int, asM_map]
  rw [decide_eq_true (by omega), lif_true, wI64 (by omega) (by omega), decide_eq_true (by omega), lif_true, key_ok h.at_r hk3 hs hk, lbind_ret, asS_string, obind_some]
  have m1 : mcells L (some mr) = some (es.map (entV (bytesL s) known), ck) := by simp only [mcells, h.at_m]
  simp only [c1, c2, Option.bind_some, asM_map, asI_int, m1, obind_some, show (TypeInfo.mk TypeDesc.string "string" 1 16 true 8 8 (some (Value.string (ByteArray.mk #[]))) true #[]).desc = TypeDesc.string from rfl, a3, asSl_slice]
  have keep1 : ∀ (x : Nat) (b : LBlk), L[x]? = some b → (L ++ [LBlk.cells [Value.int .i64 (known : Int)] 3 false 0])[x]? = some b := fun x b hx => by rw [get_push (get_lt hx), hx]
  have d1 : cell (L ++ [LBlk.cells [Value.int .i64 (known : Int)] 3 false 0]) ⟨r, 1, none⟩ = some (.map (some mr)) := cellv (keep1 _ _ h.at_r) rfl
  have m2 : mcells (L ++ [LBlk.cells [Value.int .i64 (known : Int)] 3 false 0]) (some mr) = some (es.map (entV (bytesL s) known), ck) := by simp only [mcells, keep1 _ _ h.at_m]
  simp only [m2, obind_some, a3, asSl_slice, same_self, when_true, d1, Option.bind_some, asM_map, src_new]
  have hplen := placesAt_length (bytesL s) (key3 (bytesL s) known) known
  obtain ⟨s', L2, F1, e1, e2, e3⟩ := (a1.mono (L' := L ++ [LBlk.cells [Value.int .i64 (known : Int)] 3 false 0]) fun x hx => get_push (a1.within x hx)).app [.int .i64 (known : Int)] 8 (by simp [placesV]; omega) (by simp [placesV]; omega)
  have e1 : Rlm.app (L ++ [LBlk.cells [Value.int .i64 (known : Int)] 3 false 0]) 3 1 8 l 1 [Value.int .i64 (known : Int)] = some (s', L2) := e1
  have hpl : placesV (bytesL s) (key3 (bytesL s) known) known ++ [Value.int .i64 (known : Int)] = placesV (bytesL s) (key3 (bytesL s) known) (known + 1) := by
    unfold placesV; rw [placesAt_succ_same]; simp [iV]
  rw [hpl] at e2
  simp only [e1, obind_some]
  have hL1 : (L ++ [LBlk.cells [Value.int .i64 (known : Int)] 3 false 0]).length = L.length + 1 := by simp
  have keep2 : ∀ (x : Nat) (b : LBlk), L[x]? = some b → x ∉ F0 → L2[x]? = some b := fun x b hx hn => by rw [e3.keep x (by have := get_lt hx; omega) hn, keep1 _ _ hx]
  have hrF : r ∉ F0 := fun q => n2 (a2 r q)
  have hmF : mr ∉ F0 := fun q => n3 (a2 mr q)
  have r2 := keep2 _ _ h.at_r hrF
  have q2 := keep2 _ _ h.at_m hmF
  have d2 : cell L2 ⟨r, 1, none⟩ = some (.map (some mr)) := cellv r2 rfl
  have m3 : mcells L2 (some mr) = some (es.map (entV (bytesL s) known), ck) := by simp only [mcells, q2]
  simp only [d2, Option.bind_some, asM_map, obind_some, same_self, when_true, m3]
  rcases e2 with ⟨_, e2, _⟩ | ⟨c', f1, f2, f3⟩
  · exfalso
    rw [← hpl] at e2
    simp at e2
  subst f1
  obtain ⟨es', ck', g1, g2, g3, g4, g5⟩ := a4 c' (.slice (some ⟨c', 0, none⟩) (placesV (bytesL s) (key3 (bytesL s) known) (known + 1)).length OPEN)
  simp only [g1, obind_some]
  have hc' : c' ∈ F0 ∨ L.length ≤ c' := by
    rcases e3.foot c' (by rw [f3]; simp) with q | q
    · exact .inl q
    · exact .inr (by omega)
  have hc'r : c' ≠ r := by rcases hc' with q | q; exact fun e => hrF (e ▸ q); omega
  have hc'm : c' ≠ mr := by rcases hc' with q | q; exact fun e => hmF (e ▸ q); omega
  -- the map turns
  have hes' : (es'.map fun e => if e.1 = key3 (bytesL s) known then ((Value.string (strOf e.1), Value.slice (some ⟨c', 0, none⟩) (placesV (bytesL s) (key3 (bytesL s) known) (known + 1)).length OPEN, e.2.2) : Value × Value × Nat) else entV (bytesL s) (known + 1) e) = es'.map (entV (bytesL s) (known + 1)) := by
    apply List.map_congr_left
    intro e he
    split
    · rename_i hek
      rcases g2 e he with ⟨_, q, _⟩ | ⟨_, q⟩
      · exact absurd hek q
      · unfold entV
        rw [q, hek]
        simp [placesV]
    · rfl
  rw [hes']
  have r3 : (L2.set mr (.map (es'.map (entV (bytesL s) (known + 1))) ck'))[r]? = some (.cells [.string s, .map (some mr), .int .i64 known] 114 false 0) := by rw [get_set_ne n1.symm, r2]
  have d3 : cell (L2.set mr (.map (es'.map (entV (bytesL s) (known + 1))) ck')) ⟨r, 2, none⟩ = some (.int .i64 known) := cellv r3 rfl
  simp only [d3, Option.bind_some, asI_int, obind_some]
  rw [wI64 (by omega) (by omega), stores_of r3 (by simp), obind_some]
  have hset : setAll [Value.string s, .map (some mr), .int .i64 known] 2 [Value.int .i64 ((known : Int) + 1)] = [.string s, .map (some mr), .int .i64 ((known + 1 : Nat) : Int)] := by simp [setAll]
  rw [hset]
  have hks := h.known_le
  have hcnew : c' ∉ es.map (·.2.1) ∨ c' ∈ F0 := by
    rcases hc' with q | q
    · exact .inr q
    · left
      intro q2
      obtain ⟨e, he, hec⟩ := List.mem_map.1 q2
      have := get_lt (h.at_e e he)
      omega
  have hblk : ∀ x ∈ es'.map (·.2.1), x ∈ es.map (·.2.1) ∨ L.length ≤ x := fun x hx => by
    obtain ⟨e, he, rfl⟩ := List.mem_map.1 hx
    rcases g2 e he with ⟨q, _⟩ | ⟨_, q⟩
    · exact .inl (List.mem_map_of_mem (f := (·.2.1)) q)
    · rw [q]
      rcases hc' with q | q
      · exact .inl (a2 _ q)
      · exact .inr q
  refine ⟨_, es', ck', rfl, ⟨?_, ?_, fun e he => ?_, g3, g5 hcnew, fun p hp => ?_, fun e he => ?_, ⟨n1, fun q => ?_, fun q => ?_⟩, by omega⟩, ⟨?_, fun x hx hn => ?_, fun x hx => ?_⟩⟩
  · rw [get_set_self r3]
  · rw [get_set_ne n1, get_set_self q2]
  · rcases g2 e he with ⟨w1, w2, w3⟩ | ⟨w1, w2⟩
    · have hb := h.at_e e w1
      have hx := List.mem_map_of_mem (f := (·.2.1)) w1
      have h1 : r ≠ e.2.1 := fun q => n2 (by rw [q]; exact hx)
      have h2 : mr ≠ e.2.1 := fun q => n3 (by rw [q]; exact hx)
      rw [get_set_ne h1, get_set_ne h2, keep2 _ _ hb w3]
      unfold placesV
      rw [placesAt_succ_ne _ _ _ w2.symm]
    · rw [w2, w1, get_set_ne hc'r.symm, get_set_ne hc'm.symm, f2]
  · rw [g4]
    by_cases hpk : p < known
    · exact .inl (h.all p hpk)
    · have : p = known := by omega
      subst this
      exact .inr rfl
  · rcases g2 e he with ⟨w1, _⟩ | ⟨w1, _⟩
    · exact h.small e w1
    · rw [w1]; exact hK
  · rcases hblk r q with w | w
    · exact n2 w
    · omega
  · rcases hblk mr q with w | w
    · exact n3 w
    · omega
  · have := e3.len
    simp; omega
  · simp only [List.mem_cons, not_or] at hn
    obtain ⟨w1, w2, w3⟩ := hn
    rw [get_set_ne (Ne.symm w1), get_set_ne (Ne.symm w2), e3.keep x (by omega) (fun q => w3 (a2 x q)), get_push hx]
  · rcases List.mem_cons.1 hx with rfl | hx
    · exact .inl (by simp)
    · rcases List.mem_cons.1 hx with rfl | hx
      · exact .inl (by simp)
      · rcases hblk x hx with w | w
        · exact .inl (by simp at w ⊢; exact .inr (.inr w))
        · exact .inr w
theorem learn_loop {k r i : Nat} {s : ByteArray} (hi3 : i + 3 ≤ s.size) (hs : s.size < 2 ^ 40) (hk : 1 ≤ k) : ∀ (m known j : Nat) (F : List Nat) (L : LHeap), i ≤ known + m → m < j → FI L r s known F →
    ∃ L' F' known', f85_l0 k j (some ⟨r, 0, none⟩) (i : Int) L = some (.ret (.tuple #[]) L') ∧ FI L' r s known' F' ∧ i ≤ known' ∧ Step F L F' L' := by
  intro m
  induction m with
  | zero =>
    intro known j F L h1 h2 h
    obtain ⟨j, rfl⟩ : ∃ j', j = j' + 1 := ⟨j - 1, by omega⟩
    have h0 := h
    obtain ⟨mr, es, ck, h, rfl⟩ := h
    have c2 : cell L ⟨r, 2, none⟩ = some (.int .i64 known) := cellv h.at_r rfl
    refine ⟨L, _, known, ?_, h0, by omega, .refl _ _⟩
    rw [f85_l0_eq]
    simp only [obind_some, mk_add, Nat.zero_add, c2, Option.bind_some, asI_int]
    rw [decide_eq_false (by omega), lif_false]
  | succ m ih =>
    intro known j F L h1 h2 h
    obtain ⟨j, rfl⟩ : ∃ j', j = j' + 1 := ⟨j - 1, by omega⟩
    by_cases hki : known < i
    · obtain ⟨mr, es, ck, h, rfl⟩ := h
      obtain ⟨L1, es', ck', g1, g2, g3⟩ := learn_step (j := j) h hki (by omega) hs hk
      obtain ⟨L2, F2, known', e1, e2, e3, e4⟩ := ih (known + 1) j _ L1 (by omega) (by omega) ⟨mr, es', ck', g2, rfl⟩
      exact ⟨L2, F2, known', by rw [g1, e1], e2, e3, g3.trans e4⟩
    · have h0 := h
      obtain ⟨mr, es, ck, h, rfl⟩ := h
      have c2 : cell L ⟨r, 2, none⟩ = some (.int .i64 known) := cellv h.at_r rfl
      refine ⟨L, _, known, ?_, h0, by omega, .refl _ _⟩
      rw [f85_l0_eq]
      simp only [obind_some, mk_add, Nat.zero_add, c2, Option.bind_some, asI_int]
      rw [decide_eq_false (by omega), lif_false]
theorem learn_ok {k r i known : Nat} {s : ByteArray} {F : List Nat} {L : LHeap} (h : FI L r s known F) (hi3 : i + 3 ≤ s.size) (hs : s.size < 2 ^ 40) (hk : i + 5 ≤ k) :
    ∃ L' F' known', f85 k (some ⟨r, 0, none⟩) (i : Int) L = some (.ret (.tuple #[]) L') ∧ FI L' r s known' F' ∧ i ≤ known' ∧ Step F L F' L' := by
  obtain ⟨k, rfl⟩ : ∃ k', k = k' + 1 := ⟨k - 1, by omega⟩
  rw [f85_eq]
  exact learn_loop hi3 hs (by omega) i known k F L (by omega) (by omega) h
end Go.Proofs.Ytflhogapjmdkaaa.X
end

section
set_option maxRecDepth 100000
set_option linter.unusedVariables false
namespace Go.Proofs.Ytflhogapjmdkaaa.X
open Go Go.Rlm
/-- Two variables: a length, a distance. -/
def LD (L : LHeap) (r3 r4 : Nat) (p : Nat × Nat) : Prop := L[r3]? = some (.cells [.int .i64 p.1] 3 false 0) ∧ L[r4]? = some (.cells [.int .i64 p.2] 3 false 0)
/-- What a place makes of them, and whether it may get better behind it. -/
def pickStep (b : List Nat) (i f : Nat) (p : Nat × Nat) : (Nat × Nat) × Bool :=
  if i ≤ f then (p, true) else if 32768 < i - f then (p, false)
  else let p' := if p.1 < alike b i f then (alike b i f, i - f) else p; (p', decide (p'.1 < 258))
theorem pickM_step (b : List Nat) (i f : Nat) (fs : List Nat) (p : Nat × Nat) : pickM b i (f :: fs) p = if (pickStep b i f p).2 then pickM b i fs (pickStep b i f p).1 else (pickStep b i f p).1 := by
  rw [pickM]
  unfold pickStep
  by_cases h1 : i ≤ f
  · simp [h1]
  · by_cases h2 : 32768 < i - f
    · simp [h1, h2]
    · simp only [h1, h2, if_false, decide_eq_true_eq]
theorem better_ok {k f i r r1 r2 r3 r4 : Nat} {p : Nat × Nat} {s : ByteArray} {vs : List Value} {e : TypeId} {L : LHeap} (h1 : L[r1]? = some (.cells [.int .i64 i] 3 false 0)) (h2 : L[r2]? = some (.cells [.pointer (some ⟨r, 0, none⟩)] 111 false 0))
    (hr : L[r]? = some (.cells (.string s :: vs) e false 0)) (hp : LD L r3 r4 p) (n34 : r3 ≠ r4) (n13 : r1 ≠ r3) (n14 : r1 ≠ r4) (hf : f ≤ s.size) (hi : i ≤ s.size) (hs : s.size < 2 ^ 40) (hk : 310 ≤ k) :
    ∃ L', f86 k (f : Int) r1 r2 r3 r4 L = some (.ret (.bool (pickStep (bytesL s) i f p).2) L') ∧ LD L' r3 r4 (pickStep (bytesL s) i f p).1 ∧ L'.length = L.length ∧ ∀ x, x ≠ r3 → x ≠ r4 → L'[x]? = L[x]? := by
  obtain ⟨k, rfl⟩ : ∃ k', k = k' + 1 := ⟨k - 1, by omega⟩
  obtain ⟨h3, h4⟩ := hp
  have c1 : cell L ⟨r1, 0, none⟩ = some (.int .i64 i) := cellv h1 rfl
  have c2 : cell L ⟨r2, 0, none⟩ = some (.pointer (some ⟨r, 0, none⟩)) := cellv h2 rfl
  have c3 : cell L ⟨r3, 0, none⟩ = some (.int .i64 p.1) := cellv h3 rfl
  rw [f86_eq]
  simp only [c1, c2, Option.bind_some, asI_int, asP_pointer, obind_some]
  unfold pickStep
  by_cases a1 : i ≤ f
  · rw [decide_eq_true (by omega), lif_true]
    simp only [a1, if_true]
    exact ⟨L, rfl, ⟨h3, h4⟩, rfl, fun _ _ _ => rfl⟩
  · rw [decide_eq_false (by omega), lif_false, wI64 (by omega) (by omega)]
    by_cases a2 : 32768 < i - f
    · rw [decide_eq_true (by omega), lif_true]
      simp only [a1, a2, if_true, if_false]
      exact ⟨L, rfl, ⟨h3, h4⟩, rfl, fun _ _ _ => rfl⟩
    · rw [decide_eq_false (by omega), lif_false, alike_ok hr (by omega) hi hs (by omega), lbind_ret]
      simp only [asI_int, obind_some, c3, Option.bind_some, a1, a2, if_false]
      by_cases a3 : p.1 < alike (bytesL s) i f
      · rw [decide_eq_true (by omega), lif_true]
        simp only [c1, Option.bind_some, asI_int, obind_some]
        rw [stores_all (news := [.int .i64 (alike (bytesL s) i f : Nat)]) h3 rfl, obind_some]
        have g1 : (L.set r3 (.cells [.int .i64 (alike (bytesL s) i f : Nat)] 3 false 0))[r1]? = some (.cells [.int .i64 i] 3 false 0) := by rw [get_set_ne n13.symm, h1]
        have g4 : (L.set r3 (.cells [.int .i64 (alike (bytesL s) i f : Nat)] 3 false 0))[r4]? = some (.cells [.int .i64 p.2] 3 false 0) := by rw [get_set_ne n34, h4]
        have g3 : (L.set r3 (.cells [.int .i64 (alike (bytesL s) i f : Nat)] 3 false 0))[r3]? = some (.cells [.int .i64 (alike (bytesL s) i f : Nat)] 3 false 0) := get_set_self h3
        have gk : ∀ x, x ≠ r3 → (L.set r3 (.cells [.int .i64 (alike (bytesL s) i f : Nat)] 3 false 0))[x]? = L[x]? := fun x hx => get_set_ne (Ne.symm hx)
        have gl : (L.set r3 (.cells [.int .i64 (alike (bytesL s) i f : Nat)] 3 false 0)).length = L.length := by simp
        generalize L.set r3 (.cells [.int .i64 (alike (bytesL s) i f : Nat)] 3 false 0) = L1 at *
        have d1 : cell L1 ⟨r1, 0, none⟩ = some (.int .i64 i) := cellv g1 rfl
        simp only [d1, Option.bind_some, asI_int, obind_some, same_self, when_true]
        rw [wI64 (by omega) (by omega), show (i : Int) - (f : Int) = ((i - f : Nat) : Int) by omega, stores_all (news := [.int .i64 (i - f : Nat)]) g4 rfl, obind_some]
        have k3 : (L1.set r4 (.cells [.int .i64 (i - f : Nat)] 3 false 0))[r3]? = some (.cells [.int .i64 (alike (bytesL s) i f : Nat)] 3 false 0) := by rw [get_set_ne n34.symm, g3]
        have e3 : cell (L1.set r4 (.cells [.int .i64 (i - f : Nat)] 3 false 0)) ⟨r3, 0, none⟩ = some (.int .i64 (alike (bytesL s) i f : Nat)) := cellv k3 rfl
        simp only [e3, Option.bind_some, asI_int, obind_some, a3, if_true]
        refine ⟨_, ?_, ⟨k3, get_set_self g4⟩, by simp [gl], fun x q1 q2 => by rw [get_set_ne (Ne.symm q2), gk x q1]⟩
        congr 3
        apply decide_eq_decide.2
        omega
      · rw [decide_eq_false (by omega), lif_false]
        simp only [a3, if_false]
        refine ⟨L, ?_, ⟨h3, h4⟩, rfl, fun _ _ _ => rfl⟩
        congr 3
        apply decide_eq_decide.2
        omega
def rec71 (rb : Nat) (st : LSt) : LBlk := .loop 71 7 [(6, .pointer (some ⟨rb, 0, none⟩))] st
def fnBetter (r1 r2 r3 r4 : Nat) : Value := .func (.func 86) #[] #[.pointer (some ⟨r1, 0, none⟩), .pointer (some ⟨r2, 0, none⟩), .pointer (some ⟨r3, 0, none⟩), .pointer (some ⟨r4, 0, none⟩)]
/-- What stands round about while places are gone over. -/
structure Around (L : LHeap) (r r1 r2 rb i : Nat) (s : ByteArray) (vs : List Value) (e : TypeId) (r3 r4 : Nat) : Prop where
  at1 : L[r1]? = some (.cells [.int .i64 i] 3 false 0)
  at2 : L[r2]? = some (.cells [.pointer (some ⟨r, 0, none⟩)] 111 false 0)
  atr : L[r]? = some (.cells (.string s :: vs) e false 0)
  atb : L[rb]? = some (.cells [fnBetter r1 r2 r3 r4] 144 false 0)
theorem Around.mono {L L' : LHeap} {r r1 r2 rb i r3 r4 : Nat} {s : ByteArray} {vs : List Value} {e : TypeId} (h : Around L r r1 r2 rb i s vs e r3 r4) (hk : ∀ x ∈ [r, r1, r2, rb], L'[x]? = L[x]?) : Around L' r r1 r2 rb i s vs e r3 r4 :=
  ⟨by rw [hk r1 (by simp), h.at1], by rw [hk r2 (by simp), h.at2], by rw [hk r (by simp), h.atr], by rw [hk rb (by simp), h.atb]⟩
theorem round71 {k rb j q f i r r1 r2 r3 r4 : Nat} {p : Nat × Nat} {s : ByteArray} {vs : List Value} {e : TypeId} {L : LHeap} (hj : L[j]? = some (rec71 rb .ready)) (ha : Around L r r1 r2 rb i s vs e r3 r4)
    (hp : LD L r3 r4 p) (n34 : r3 ≠ r4) (hn : ∀ x ∈ [r, r1, r2, rb], x ≠ r3 ∧ x ≠ r4 ∧ x ≠ j) (hj34 : j ≠ r3 ∧ j ≠ r4) (hf : f ≤ s.size) (hi : i ≤ s.size) (hs : s.size < 2 ^ 40) (hk : 320 ≤ k) :
    ∃ L', lapp (lcall Proofs.Try.prog T k) (.func (.yield j) #[] #[]) [.int .i64 (q : Int), .int .i64 (f : Int)] L = some (.ret (.bool (pickStep (bytesL s) i f p).2) L') ∧
      LD L' r3 r4 (pickStep (bytesL s) i f p).1 ∧ L'[j]? = some (rec71 rb (if (pickStep (bytesL s) i f p).2 then .ready else .left (.exit 0))) ∧ L'.length = L.length ∧ ∀ x, x ≠ r3 → x ≠ r4 → x ≠ j → L'[x]? = L[x]? := by
  obtain ⟨k, rfl⟩ : ∃ k', k = k' + 1 := ⟨k - 1, by omega⟩
  show ∃ L', lcall Proofs.Try.prog T (k + 1) (YB + j) [.int .i64 (q : Int), .int .i64 (f : Int)] L = _ ∧ _
  rw [lcall_yield]
  unfold lyield
  rw [hj]
  show ∃ L', lbindR (r71_7 k rb j (.int .i64 (q : Int)) (f : Int) L) _ = _ ∧ _
  have hb : lbusy j L = fun K => K (L.set j (rec71 rb .busy)) := by
    funext K
    unfold lbusy
    rw [hj]
    rfl
  rw [r71_7_eq, hb]
  have hj0 : (L.set j (rec71 rb .busy))[j]? = some (rec71 rb .busy) := get_set_self hj
  have ha0 : Around (L.set j (rec71 rb .busy)) r r1 r2 rb i s vs e r3 r4 := ha.mono fun x hx => get_set_ne (Ne.symm (hn x hx).2.2)
  have hp0 : LD (L.set j (rec71 rb .busy)) r3 r4 p := ⟨by rw [get_set_ne hj34.1, hp.1], by rw [get_set_ne hj34.2, hp.2]⟩
  have hl0 : (L.set j (rec71 rb .busy)).length = L.length := by simp
  have hk0 : ∀ x, x ≠ j → (L.set j (rec71 rb .busy))[x]? = L[x]? := fun x hx => get_set_ne (Ne.symm hx)
  generalize L.set j (rec71 rb .busy) = L0 at *
  have cb : cell L0 ⟨rb, 0, none⟩ = some (fnBetter r1 r2 r3 r4) := cellv ha0.atb rfl
  simp only [cb, obind_some, fnBetter]
  rw [lapp_plain (g := 86) rfl]
  show ∃ L', lbindR (lbind (f86 k (f : Int) r1 r2 r3 r4 L0) _) _ = _ ∧ _
  obtain ⟨L1, e1, e2, e3, e4⟩ := better_ok (k := k) ha0.at1 ha0.at2 ha0.atr hp0 n34 (hn r1 (by simp)).1 (hn r1 (by simp)).2.1 hf hi hs (by omega)
  have hj1 : L1[j]? = some (rec71 rb .busy) := by rw [e4 j hj34.1 hj34.2, hj0]
  rw [e1]
  generalize pickStep (bytesL s) i f p = ps at *
  obtain ⟨p', b⟩ := ps
  simp only [lbind_ret, asB_bool, obind_some]
  have hleave : ∀ ex : LExit, lleave j ex L1 = match ex with | .normal => some (.ret (.bool true) (L1.set j (rec71 rb .ready))) | e => some (.ret (.bool false) (L1.set j (rec71 rb (.left e)))) := fun ex => by
    unfold lleave
    rw [hj1]
    cases ex <;> rfl
  cases b with
  | true =>
    simp only [Bool.not_true, lif_false, hleave, lbindR_ret]
    exact ⟨_, rfl, ⟨by rw [get_set_ne hj34.1, e2.1], by rw [get_set_ne hj34.2, e2.2]⟩, get_set_self hj1, by simp [e3, hl0], fun x q1 q2 q3 => by rw [get_set_ne (Ne.symm q3), e4 x q1 q2, hk0 x q3]⟩
  | false =>
    simp only [Bool.not_false, lif_true, hleave, lbindR_ret]
    exact ⟨_, rfl, ⟨by rw [get_set_ne hj34.1, e2.1], by rw [get_set_ne hj34.2, e2.2]⟩, get_set_self hj1, by simp [e3, hl0], fun x q1 q2 q3 => by rw [get_set_ne (Ne.symm q3), e4 x q1 q2, hk0 x q3]⟩
theorem take_rev {α : Type} (l : List α) (n : Nat) (h : n < l.length) : (l.take (n + 1)).reverse = l[n] :: (l.take n).reverse := by
  rw [List.take_succ_eq_append_getElem h, List.reverse_append]
  rfl
theorem places_loop {k rb y c cap i r r1 r2 r3 r4 rs : Nat} {s : ByteArray} {vs : List Value} {e : TypeId} {P : List Nat} (n34 : r3 ≠ r4) (hn : ∀ x ∈ [r, r1, r2, rb], x ≠ r3 ∧ x ≠ r4 ∧ x ≠ y) (hy : y ≠ r3 ∧ y ≠ r4)
    (hrs : rs ≠ r3 ∧ rs ≠ r4 ∧ rs ≠ y) (hP : ∀ f ∈ P, f ≤ s.size) (hPl : P.length < 2 ^ 50) (hi : i ≤ s.size) (hs : s.size < 2 ^ 40) (hk : 330 ≤ k) {l : Sl} {A : List Nat} (hA : ∀ x ∈ A, x ≠ r3 ∧ x ≠ r4 ∧ x ≠ y) :
    ∀ (n j : Nat) (p : Nat × Nat) (L : LHeap), n ≤ P.length → n < j → L[y]? = some (rec71 rb .ready) → Around L r r1 r2 rb i s vs e r3 r4 → LD L r3 r4 p → L[rs]? = some (.cells [.slice l.a l.n l.c] 49 false 0) →
      Rd L l (P.map fun x : Nat => iV (x : Int)) A →
      ∃ L' st, f99_l1 k j (.func (.yield y) #[] #[]) rs ((n : Int) - 1) L = some (.ret (.tuple #[]) L') ∧ (st = .ready ∨ st = .left (.exit 0)) ∧ L'[y]? = some (rec71 rb st) ∧ LD L' r3 r4 (pickM (bytesL s) i (P.take n).reverse p) ∧
        L'.length = L.length ∧ ∀ x, x ≠ r3 → x ≠ r4 → x ≠ y → L'[x]? = L[x]? := by
  intro n
  induction n with
  | zero =>
    intro j p L h1 h2 hyr ha hp hb hl
    obtain ⟨j, rfl⟩ : ∃ j', j = j' + 1 := ⟨j - 1, by omega⟩
    refine ⟨L, .ready, ?_, .inl rfl, hyr, hp, rfl, fun _ _ _ _ => rfl⟩
    rw [f99_l1_eq, decide_eq_false (by omega), lif_false]
  | succ n ih =>
    intro j p L h1 h2 hyr ha hp hb hl
    obtain ⟨j, rfl⟩ : ∃ j', j = j' + 1 := ⟨j - 1, by omega⟩
    have hnP : n < P.length := by omega
    have cs : cell L ⟨rs, 0, none⟩ = some (.slice l.a l.n l.c) := cellv hb rfl
    rw [f99_l1_eq, show ((n + 1 : Nat) : Int) - 1 = (n : Int) by omega, decide_eq_true (by omega), lif_true]
    obtain ⟨a, a1, a2⟩ := hl.here (i := n) (v := iV ((P[n] : Nat) : Int)) (by rw [List.getElem?_map, List.getElem?_eq_getElem hnP]; rfl)
    simp only [cs, Option.bind_some, asSl_slice, obind_some, a1, a2, iV, asI_int]
    obtain ⟨L1, e1, e2, e3, e4, e5⟩ := round71 (k := k) (q := n) (f := P[n]) hyr ha hp n34 hn hy (hP _ (List.getElem_mem hnP)) hi hs (by omega)
    rw [e1, lbind_ret, take_rev P n hnP, pickM_step]
    simp only [asB_bool, obind_some]
    cases hb2 : (pickStep (bytesL s) i P[n] p).2 with
    | false =>
      rw [hb2] at e3
      simp only [Bool.not_false, lif_true, Bool.false_eq_true, if_false]
      exact ⟨L1, _, rfl, .inr rfl, e3, e2, e4, e5⟩
    | true =>
      rw [hb2] at e3
      simp only [Bool.not_true, lif_false, if_true]
      rw [wI64 (by omega) (by omega)]
      obtain ⟨L2, st, g1, g2, g3, g4, g5, g6⟩ := ih j _ L1 (by omega) (by omega) e3 (ha.mono fun x hx => e5 x (hn x hx).1 (hn x hx).2.1 (hn x hx).2.2) e2 (by rw [e5 rs hrs.1 hrs.2.1 hrs.2.2, hb])
        (hl.mono fun x hx => e5 x (hA x hx).1 (hA x hx).2.1 (hA x hx).2.2)
      exact ⟨L2, st, g1, g2, g3, g4, by omega, fun x q1 q2 q3 => by rw [g6 x q1 q2 q3, e5 x q1 q2 q3]⟩
end Go.Proofs.Ytflhogapjmdkaaa.X
end

section
set_option maxRecDepth 100000
set_option linter.unusedVariables false
namespace Go.Proofs.Ytflhogapjmdkaaa.X
open Go Go.Rlm
theorem longest_end {k r0 r1 : Nat} {p : Nat × Nat} {L : LHeap} (hp : LD L r0 r1 p) (hne : r0 ≠ r1) :
    ∃ L', f71_c8 k r0 r1 L = some (.ret (.tuple #[.int .i64 p.1, .int .i64 p.2]) L') ∧ L'.length = L.length ∧ ∀ x, x ≠ r0 → x ≠ r1 → L'[x]? = L[x]? := by
  obtain ⟨h0, h1⟩ := hp
  have c0 : cell L ⟨r0, 0, none⟩ = some (.int .i64 p.1) := cellv h0 rfl
  have c1 : cell L ⟨r1, 0, none⟩ = some (.int .i64 p.2) := cellv h1 rfl
  rw [f71_c8_eq]
  simp only [c0, c1, Option.bind_some, asI_int, obind_some]
  rw [stores_all (news := [.int .i64 p.1]) h0 rfl, obind_some]
  have g1 : (L.set r0 (.cells [.int .i64 p.1] 3 false 0))[r1]? = some (.cells [.int .i64 p.2] 3 false 0) := by rw [get_set_ne hne, h1]
  have g0 : (L.set r0 (.cells [.int .i64 p.1] 3 false 0))[r0]? = some (.cells [.int .i64 p.1] 3 false 0) := get_set_self h0
  have gl : (L.set r0 (.cells [.int .i64 p.1] 3 false 0)).length = L.length := by simp
  have gk : ∀ x, x ≠ r0 → (L.set r0 (.cells [.int .i64 p.1] 3 false 0))[x]? = L[x]? := fun x hx => get_set_ne (Ne.symm hx)
  generalize L.set r0 (.cells [.int .i64 p.1] 3 false 0) = L1 at *
  have d1 : cell L1 ⟨r1, 0, none⟩ = some (.int .i64 p.2) := cellv g1 rfl
  simp only [d1, Option.bind_some, asI_int, obind_some, same_self, when_true]
  rw [stores_all (news := [.int .i64 p.2]) g1 rfl, obind_some]
  have k1 : (L1.set r1 (.cells [.int .i64 p.2] 3 false 0))[r1]? = some (.cells [.int .i64 p.2] 3 false 0) := get_set_self g1
  have k0 : (L1.set r1 (.cells [.int .i64 p.2] 3 false 0))[r0]? = some (.cells [.int .i64 p.1] 3 false 0) := by rw [get_set_ne hne.symm, g0]
  have e0 : cell (L1.set r1 (.cells [.int .i64 p.2] 3 false 0)) ⟨r0, 0, none⟩ = some (.int .i64 p.1) := cellv k0 rfl
  have e1 : cell (L1.set r1 (.cells [.int .i64 p.2] 3 false 0)) ⟨r1, 0, none⟩ = some (.int .i64 p.2) := cellv k1 rfl
  simp only [e0, e1, Option.bind_some, asI_int, obind_some]
  exact ⟨_, rfl, by simp [gl], fun x q0 q1 => by rw [get_set_ne (Ne.symm q1), gk x q0]⟩
theorem longest_run {k r i known : Nat} {s : ByteArray} {F : List Nat} {L : LHeap} (h : FI L r s known F) (hi : i ≤ s.size) (hs : s.size < 2 ^ 40) (hk : s.size + 400 ≤ k) :
    ∃ L' F' known', f71 k (some ⟨r, 0, none⟩) (i : Int) L = some (.ret (.tuple #[.int .i64 (longest (bytesL s) i).1, .int .i64 (longest (bytesL s) i).2]) L') ∧ FI L' r s known' F' ∧ Step F L F' L' := by
  obtain ⟨k, rfl⟩ : ∃ k', k = k' + 1 := ⟨k - 1, by omega⟩
  have hF := h.within
  have hrF : r ∈ F := by obtain ⟨mr, es, ck, _, rfl⟩ := h; simp
  have hrL := hF r hrF
  rw [f71_eq]
  -- the variables
  have n1 : (L ++ [LBlk.cells [Value.pointer (some ⟨r, 0, none⟩)] 111 false 0])[L.length]? = some (.cells [.pointer (some ⟨r, 0, none⟩)] 111 false 0) := get_new
  have s1 := Step.push [] L [LBlk.cells [Value.pointer (some ⟨r, 0, none⟩)] 111 false 0]
  have l1 : (L ++ [LBlk.cells [Value.pointer (some ⟨r, 0, none⟩)] 111 false 0]).length = L.length + 1 := by simp
  generalize L ++ [LBlk.cells [Value.pointer (some ⟨r, 0, none⟩)] 111 false 0] = L1 at *
  have n2 : (L1 ++ [LBlk.cells [Value.int .i64 (i : Int)] 3 false 0])[L1.length]? = some (.cells [.int .i64 i] 3 false 0) := get_new
  have s2 := Step.push [] L1 [LBlk.cells [Value.int .i64 (i : Int)] 3 false 0]
  have l2 : (L1 ++ [LBlk.cells [Value.int .i64 (i : Int)] 3 false 0]).length = L1.length + 1 := by simp
  generalize L1 ++ [LBlk.cells [Value.int .i64 (i : Int)] 3 false 0] = L2 at *
  have n3 : (L2 ++ [LBlk.cells [Value.int .i64 0] 3 false 0])[L2.length]? = some (.cells [.int .i64 0] 3 false 0) := get_new
  have s3 := Step.push [] L2 [LBlk.cells [Value.int .i64 0] 3 false 0]
  have l3 : (L2 ++ [LBlk.cells [Value.int .i64 0] 3 false 0]).length = L2.length + 1 := by simp
  generalize L2 ++ [LBlk.cells [Value.int .i64 0] 3 false 0] = L3 at *
  have n4 : (L3 ++ [LBlk.cells [Value.int .i64 0] 3 false 0])[L3.length]? = some (.cells [.int .i64 0] 3 false 0) := get_new
  have s4 := Step.push [] L3 [LBlk.cells [Value.int .i64 0] 3 false 0]
  have l4 : (L3 ++ [LBlk.cells [Value.int .i64 0] 3 false 0]).length = L3.length + 1 := by simp
  generalize L3 ++ [LBlk.cells [Value.int .i64 0] 3 false 0] = L4 at *
  have nF : ∀ x, L.length ≤ x → x ∉ F := fun x hx hf => by have := hF x hf; omega
  have k4 : ∀ x, x < L.length → L4[x]? = L[x]? := fun x hx => by rw [s4.keep x (by omega) (by simp), s3.keep x (by omega) (by simp), s2.keep x (by omega) (by simp), s1.keep x hx (by simp)]
  have m1 : L4[L.length]? = some (.cells [.pointer (some ⟨r, 0, none⟩)] 111 false 0) := by rw [s4.keep _ (by omega) (by simp), s3.keep _ (by omega) (by simp), s2.keep _ (by omega) (by simp), n1]
  have m2 : L4[L1.length]? = some (.cells [.int .i64 i] 3 false 0) := by rw [s4.keep _ (by omega) (by simp), s3.keep _ (by omega) (by simp), n2]
  have m3 : L4[L2.length]? = some (.cells [.int .i64 0] 3 false 0) := by rw [s4.keep _ (by omega) (by simp), n3]
  have h4 : FI L4 r s known F := h.mono fun x hx => k4 x (hF x hx)
  have st4 : Step [] L [] L4 := ((s1.trans s2).trans s3).trans s4
  clear s1 s2 s3 s4 n1 n2 n3
  generalize hq : L.length = q at *
  generalize hq1 : L1.length = q1 at *
  generalize hq2 : L2.length = q2 at *
  generalize hq3 : L3.length = q3 at *
  have k4 : ∀ x, x < L.length → L4[x]? = L[x]? := fun x hx => k4 x (by omega)
  -- the text is long enough?
  obtain ⟨mr, es, ck, hs4, hFe⟩ := h4
  have c0 : cell L4 ⟨q, 0, none⟩ = some (.pointer (some ⟨r, 0, none⟩)) := cellv m1 rfl
  have c1 : cell L4 ⟨q1, 0, none⟩ = some (.int .i64 i) := cellv m2 rfl
  have cr : cell L4 ⟨r, 0, none⟩ = some (.string s) := cellv hs4.at_r rfl
  simp only [c0, c1, Option.bind_some, asI_int, asP_pointer, obind_some, mk_add, Nat.zero_add, cr, asS_string]
  rw [wI64 (by omega) (by omega)]
  by_cases h3 : s.size < i + 3
  · rw [decide_eq_true (by omega), lif_true, stores_all (news := [.int .i64 0]) m3 rfl, obind_some]
    have g4 : (L4.set q2 (.cells [.int .i64 0] 3 false 0))[q3]? = some (.cells [.int .i64 0] 3 false 0) := by rw [get_set_ne (by omega), n4]
    rw [stores_all (news := [.int .i64 0]) g4 rfl, obind_some]
    have g3 : ((L4.set q2 (.cells [.int .i64 0] 3 false 0)).set q3 (.cells [.int .i64 0] 3 false 0))[q2]? = some (.cells [.int .i64 0] 3 false 0) := by rw [get_set_ne (by omega), get_set_self m3]
    have g4 : ((L4.set q2 (.cells [.int .i64 0] 3 false 0)).set q3 (.cells [.int .i64 0] 3 false 0))[q3]? = some (.cells [.int .i64 0] 3 false 0) := get_set_self g4
    have kk : ∀ x, x < L.length → ((L4.set q2 (.cells [.int .i64 0] 3 false 0)).set q3 (.cells [.int .i64 0] 3 false 0))[x]? = L4[x]? := fun x hx => by rw [get_set_ne (by omega), get_set_ne (by omega)]
    have kl : ((L4.set q2 (.cells [.int .i64 0] 3 false 0)).set q3 (.cells [.int .i64 0] 3 false 0)).length = L4.length := by simp
    generalize (L4.set q2 (.cells [.int .i64 0] 3 false 0)).set q3 (.cells [.int .i64 0] 3 false 0) = L5 at *
    have d3 : cell L5 ⟨q2, 0, none⟩ = some (.int .i64 0) := cellv g3 rfl
    have d4 : cell L5 ⟨q3, 0, none⟩ = some (.int .i64 0) := cellv g4 rfl
    simp only [d3, d4, Option.bind_some, asI_int, obind_some]
    rw [longest_none (bytesL s) i (by rw [bytesL_len]; omega)]
    exact ⟨L5, F, known, rfl, h.mono fun x hx => by rw [kk x (hF x hx), k4 x (hF x hx)], ⟨by omega, fun x hx _ => by rw [kk x hx, k4 x hx], fun x hx => .inl hx⟩⟩
  · rw [decide_eq_false (by omega), lif_false]
    obtain ⟨L5, F1, known', e1, e2, e3, e4⟩ := learn_ok (k := k) ⟨mr, es, ck, hs4, hFe⟩ (show i + 3 ≤ s.size by omega) hs (by omega)
    rw [e1, lbind_ret]
    have hF1 : ∀ x ∈ F1, x ∈ F ∨ L4.length ≤ x := e4.foot
    have k5 : ∀ x, x < L4.length → x ∉ F → L5[x]? = L4[x]? := e4.keep
    have l5 := e4.len
    have w1 : L5[q]? = some (.cells [.pointer (some ⟨r, 0, none⟩)] 111 false 0) := by rw [k5 q (by omega) (nF q (by omega)), m1]
    have w2 : L5[q1]? = some (.cells [.int .i64 i] 3 false 0) := by rw [k5 q1 (by omega) (nF q1 (by omega)), m2]
    have w3 : L5[q2]? = some (.cells [.int .i64 0] 3 false 0) := by rw [k5 q2 (by omega) (nF q2 (by omega)), m3]
    have w4 : L5[q3]? = some (.cells [.int .i64 0] 3 false 0) := by rw [k5 q3 (by omega) (nF q3 (by omega)), n4]
    have hF1L := e2.within
    have e2' := e2
    obtain ⟨mr1, es1, ck1, hs5, hF1e⟩ := e2
    -- better
    have b1 : (L5 ++ [LBlk.cells [Value.nilFunc] 144 false 0])[L5.length]? = some (.cells [.nilFunc] 144 false 0) := get_new
    have hst : stores (L5 ++ [LBlk.cells [Value.nilFunc] 144 false 0]) ⟨L5.length, 0, none⟩ [Value.func (Fn.func 86) #[] #[.pointer (some ⟨q1, 0, none⟩), .pointer (some ⟨q, 0, none⟩), .pointer (some ⟨q2, 0, none⟩), .pointer (some ⟨q3, 0, none⟩)]] =
      some ((L5 ++ [LBlk.cells [Value.nilFunc] 144 false 0]).set L5.length (.cells [fnBetter q1 q q2 q3] 144 false 0)) := stores_all (news := [fnBetter q1 q q2 q3]) b1 rfl
    rw [hst, obind_some]
    have b2 : ((L5 ++ [LBlk.cells [Value.nilFunc] 144 false 0]).set L5.length (.cells [fnBetter q1 q q2 q3] 144 false 0))[L5.length]? = some (.cells [fnBetter q1 q q2 q3] 144 false 0) := get_set_self b1
    have b3 : ∀ x, x < L5.length → ((L5 ++ [LBlk.cells [Value.nilFunc] 144 false 0]).set L5.length (.cells [fnBetter q1 q q2 q3] 144 false 0))[x]? = L5[x]? := fun x hx => by rw [get_set_ne (by omega), get_push hx]
    have b4 : ((L5 ++ [LBlk.cells [Value.nilFunc] 144 false 0]).set L5.length (.cells [fnBetter q1 q q2 q3] 144 false 0)).length = L5.length + 1 := by simp
    generalize (L5 ++ [LBlk.cells [Value.nilFunc] 144 false 0]).set L5.length (.cells [fnBetter q1 q q2 q3] 144 false 0) = L6 at *
    have hs6 : FIs L6 r mr1 s known' es1 ck1 := hs5.mono fun x hx => b3 x (hF1L x (by rw [hF1e]; exact hx))
    have u1 : L6[q]? = some (.cells [.pointer (some ⟨r, 0, none⟩)] 111 false 0) := by rw [b3 q (by omega), w1]
    have u2 : L6[q1]? = some (.cells [.int .i64 i] 3 false 0) := by rw [b3 q1 (by omega), w2]
    have u3 : L6[q2]? = some (.cells [.int .i64 0] 3 false 0) := by rw [b3 q2 (by omega), w3]
    have u4 : L6[q3]? = some (.cells [.int .i64 0] 3 false 0) := by rw [b3 q3 (by omega), w4]
    have x0 : cell L6 ⟨q, 0, none⟩ = some (.pointer (some ⟨r, 0, none⟩)) := cellv u1 rfl
    have x1 : cell L6 ⟨q1, 0, none⟩ = some (.int .i64 i) := cellv u2 rfl
    have xr : cell L6 ⟨r, 1, none⟩ = some (.map (some mr1)) := cellv hs6.at_r rfl
    simp only [x0, x1, Option.bind_some, asI_int, asP_pointer, obind_some, mk_add, Nat.zero_add, xr, asM_map]
    rw [key_ok hs6.at_r (show i + 3 ≤ s.size by omega) hs (by omega)]
    have mm : mcells L6 (some mr1) = some (es1.map (entV (bytesL s) known'), ck1) := by simp only [mcells, hs6.at_m]
    simp only [lbindR_ret, asS_string, obind_some, mk_add, Nat.zero_add, xr, x0, Option.bind_some, asM_map, asP_pointer, same_self, when_true, mm, show (TypeInfo.mk TypeDesc.string "string" 1 16 true 8 8 (some (Value.string (ByteArray.mk #[]))) true #[]).desc = TypeDesc.string from rfl]
    -- the places
    obtain ⟨l, A, flag, v1, v2, v3, v4⟩ : ∃ (l : Sl) (A : List Nat) (flag : Bool), mlook .string (.string (strOf (key3 (bytesL s) i))) (.slice none 0 0) (es1.map (entV (bytesL s) known')) = some (.slice l.a l.n l.c, flag) ∧
        Rd L6 l ((placesAt (bytesL s) (key3 (bytesL s) i) known').map fun x : Nat => iV (x : Int)) A ∧ l.n = (placesAt (bytesL s) (key3 (bytesL s) i) known').length ∧ (∀ x ∈ A, x ∈ F1) := by
      rcases hs6.look (key3_small s i) with ⟨y1, y2, y3⟩ | ⟨pre, c, st, post, y1, y2, y3, y4⟩
      · exact ⟨⟨none, 0, 0⟩, [], false, y3, ⟨by rw [y2]; rfl, .inl ⟨by rw [y2]; rfl, rfl⟩⟩, by rw [y2]; rfl, by simp⟩
      · have hat := hs6.at_e (key3 (bytesL s) i, c, st) (by rw [y1]; simp)
        refine ⟨⟨some ⟨c, 0, none⟩, (placesAt (bytesL s) (key3 (bytesL s) i) known').length, OPEN⟩, [c], true, y4, ⟨by simp, .inr ⟨c, 0, placesV (bytesL s) (key3 (bytesL s) i) known', 3, false, 1, rfl, hat, fun x hx => by rw [Nat.zero_add]; rfl, rfl⟩⟩, rfl, fun x hx => ?_⟩
        simp at hx
        subst hx
        rw [hF1e, y1]
        simp
    simp only [v1, obind_some, asSl_slice]
    obtain ⟨k, rfl⟩ : ∃ k', k = k' + 1 := ⟨k - 1, by omega⟩
    rw [f88_eq]
    simp only [lbindR_ret]
    have z1 : (L6 ++ [LBlk.cells [Value.slice l.a l.n l.c] 49 false 0])[L6.length]? = some (.cells [.slice l.a l.n l.c] 49 false 0) := get_new
    have z2 : ∀ x, x < L6.length → (L6 ++ [LBlk.cells [Value.slice l.a l.n l.c] 49 false 0])[x]? = L6[x]? := fun x hx => get_push hx
    have z3 : (L6 ++ [LBlk.cells [Value.slice l.a l.n l.c] 49 false 0]).length = L6.length + 1 := by simp
    generalize L6 ++ [LBlk.cells [Value.slice l.a l.n l.c] 49 false 0] = L7 at *
    have a1 : (L7 ++ [rec71 L5.length .ready])[L7.length]? = some (rec71 L5.length .ready) := get_new
    have a2 : ∀ x, x < L7.length → (L7 ++ [rec71 L5.length .ready])[x]? = L7[x]? := fun x hx => get_push hx
    have a3 : (L7 ++ [rec71 L5.length .ready]).length = L7.length + 1 := by simp
    show ∃ L' F' known', lbindR (lappF (lcall Proofs.Try.prog T (k + 1)) (Value.func (Fn.func 99) #[] #[Value.pointer (some (Addr.mk L6.length 0 none))]) [Value.func (Fn.yield L7.length) #[] #[]] (L7 ++ [rec71 L5.length .ready])) _ = _ ∧ _
    generalize L7 ++ [rec71 L5.length .ready] = L8 at *
    have hap : lappF (lcall Proofs.Try.prog T (k + 1)) (Value.func (Fn.func 99) #[] #[Value.pointer (some (Addr.mk L6.length 0 none))]) [Value.func (Fn.yield L7.length) #[] #[]] L8 = f99 (k + 1) (.func (.yield L7.length) #[] #[]) L6.length L8 := by
      unfold lappF
      simp only [show Nat.blt 99 YB = true from rfl, hif_true]
      rfl
    rw [hap, f99_eq]
    have k8 : ∀ x, x < L6.length → L8[x]? = L6[x]? := fun x hx => by rw [a2 x (by omega), z2 x hx]
    have s8 : L8[L6.length]? = some (.cells [.slice l.a l.n l.c] 49 false 0) := by rw [a2 _ (by omega), z1]
    have cs : cell L8 ⟨L6.length, 0, none⟩ = some (.slice l.a l.n l.c) := cellv s8 rfl
    have hpl := placesAt_length (bytesL s) (key3 (bytesL s) i) known'
    have hkn := hs5.known_le
    simp only [cs, Option.bind_some, asSl_slice, obind_some]
    rw [wI64 (by omega) (by omega), v3]
    have hF1x : ∀ x ∈ F1, x < L5.length ∧ x ≠ q ∧ x ≠ q1 ∧ x ≠ q2 ∧ x ≠ q3 := fun x hx => by
      have := hF1L x hx
      rcases hF1 x hx with w | w
      · have := hF x w; omega
      · omega
    have hrx : r < L5.length ∧ r ≠ q ∧ r ≠ q1 ∧ r ≠ q2 ∧ r ≠ q3 := hF1x r (by rw [hF1e]; simp)
    obtain ⟨L9, st, g1, g2, g3, g4, g5, g6⟩ := places_loop (k := k) (rb := L5.length) (y := L7.length) (c := 0) (cap := 0) (i := i) (r := r) (r1 := q1) (r2 := q) (r3 := q2) (r4 := q3) (rs := L6.length) (s := s) (vs := [.map (some mr1), .int .i64 known']) (e := 114)
      (P := placesAt (bytesL s) (key3 (bytesL s) i) known') (by omega) (fun x hx => by
        simp only [List.mem_cons, List.mem_nil_iff, or_false] at hx
        rcases hx with rfl | rfl | rfl | rfl
        · omega
        · omega
        · omega
        · omega) (by omega) (by omega) (fun f hf => by have := placesAt_lt _ _ _ f hf; omega) (by omega) hi hs (by omega) (l := l) (A := A) (fun x hx => by have := hF1x x (v4 x hx); omega)
      (placesAt (bytesL s) (key3 (bytesL s) i) known').length k (0, 0) L8 (Nat.le_refl _) (by omega) a1
      ⟨by rw [k8 _ (by omega), u2], by rw [k8 _ (by omega), u1], by rw [k8 _ (by omega), hs6.at_r], by rw [k8 _ (by omega), b2]⟩ ⟨by rw [k8 _ (by omega), u3]; rfl, by rw [k8 _ (by omega), u4]; rfl⟩ s8
      (v2.mono fun x hx => k8 x (by have := hF1x x (v4 x hx); omega))
    rw [g1]
    simp only [lbindR_ret]
    rw [List.take_length, pickM_longest (bytesL s) i known' (by rw [bytesL_len]; omega) e3] at g4
    have hend : lend L7.length L9 (fun L32 => fuel (k + 1) (f71_c8 (k + 1) q2 q3 L32)) (fun e33 L32 => lex e33 (LExit.exit 0) (fuel (k + 1) (f71_c8 (k + 1) q2 q3 L32)) none) = f71_c8 (k + 1) q2 q3 (L9.set L7.length .dead) := by
      unfold lend
      rw [g3]
      rcases g2 with rfl | rfl
      · show fuel (k + 1) _ = _
        rw [fuel_succ]
      · show lex (LExit.exit 0) (LExit.exit 0) (fuel (k + 1) _) none = _
        rw [fuel_succ]
        rfl
    rw [hend]
    obtain ⟨L10, o1, o2, o3⟩ := longest_end (k := k + 1) (r0 := q2) (r1 := q3) (p := longest (bytesL s) i) (L := L9.set L7.length .dead) ⟨by rw [get_set_ne (by omega), g4.1], by rw [get_set_ne (by omega), g4.2]⟩ (by omega)
    have hfin : ∀ x, x < L5.length → x ≠ q2 → x ≠ q3 → L10[x]? = L5[x]? := fun x hx y1 y2 => by
      rw [o3 x y1 y2, get_set_ne (by omega), g6 x y1 y2 (by omega), k8 x (by omega), b3 x hx]
    refine ⟨L10, F1, known', o1, e2'.mono fun x hx => hfin x (hF1L x hx) (hF1x x hx).2.2.2.1 (hF1x x hx).2.2.2.2, ⟨?_, fun x hx hn => ?_, fun x hx => ?_⟩⟩
    · rw [o2, List.length_set, g5]; omega
    · rw [hfin x (by omega) (by omega) (by omega), k5 x (by omega) hn, k4 x hx]
    · rcases hF1 x hx with w | w
      · exact .inl w
      · exact .inr (by omega)
end Go.Proofs.Ytflhogapjmdkaaa.X
end

section
set_option maxRecDepth 100000
set_option linter.unusedVariables false
namespace Go.Proofs.Ytflhogapjmdkaaa.X
open Go Go.Rlm
def slotV (row : List Int) (d : Int) : Int := match slotOf row d with
  | some i => (i : Int)
  | none => -1
theorem slot_loop {k : Nat} {l : Sl} {row : List Int} {d : Int} {A : List Nat} {L : LHeap} (hl : Rd L l (row.map iV) A) (hs : row.length < 2 ^ 40) :
    ∀ (m i j : Nat), i + m = row.length → m < j → f72_l2 k j l d (row.length : Int) (i : Int) L = some (.ret (.int .i64 (match (row.drop i).findIdx? (· == d) with | some q => ((i + q : Nat) : Int) | none => -1)) L) := by
  intro m
  induction m with
  | zero =>
    intro i j hi hj
    obtain ⟨j, rfl⟩ : ∃ j', j = j' + 1 := ⟨j - 1, by omega⟩
    rw [f72_l2_eq, decide_eq_false (by omega), lif_false, List.drop_of_length_le (by omega)]
    rfl
  | succ m ih =>
    intro i j hi hj
    obtain ⟨j, rfl⟩ : ∃ j', j = j' + 1 := ⟨j - 1, by omega⟩
    have hil : i < row.length := by omega
    obtain ⟨a, a1, a2⟩ := hl.here (i := i) (v := iV row[i]) (by rw [List.getElem?_map, List.getElem?_eq_getElem hil]; rfl)
    rw [f72_l2_eq, decide_eq_true (by omega), lif_true]
    simp only [a1, a2, iV, Option.bind_some, asI_int, obind_some]
    rw [List.drop_eq_getElem_cons hil, List.findIdx?_cons]
    by_cases he : row[i] = d
    · rw [he, beq_self_eq_true, lif_true]
      simp
    · rw [show (d == row[i]) = false by simpa using fun h => he h.symm, lif_false, wI64 (by omega) (by omega), show (i : Int) + 1 = ((i + 1 : Nat) : Int) by omega, ih (i + 1) j (by omega) (by omega)]
      rw [show (row[i] == d) = false by simpa using he]
      simp only [Bool.false_eq_true, if_false]
      cases (row.drop (i + 1)).findIdx? (· == d) with
      | none => rfl
      | some q =>
        simp only [Option.map_some]
        rw [show i + 1 + q = i + (q + 1) by omega]
theorem slot_ok {k : Nat} {l : Sl} {row : List Int} {d : Int} {A : List Nat} {L : LHeap} (hl : Rd L l (row.map iV) A) (hs : row.length < 2 ^ 40) (hk : row.length + 5 ≤ k) : f72 k l d L = some (.ret (.int .i64 (slotV row d)) L) := by
  obtain ⟨k, rfl⟩ : ∃ k', k = k' + 1 := ⟨k - 1, by omega⟩
  have hn := hl.len
  rw [f72_eq, hn, List.length_map]
  have := slot_loop (k := k) (d := d) hl hs row.length 0 k (by omega) (by omega)
  rw [show ((0 : Nat) : Int) = 0 from rfl] at this
  rw [this, List.drop_zero]
  unfold slotV slotOf
  cases row.findIdx? (· == d) <;> simp
theorem front_loop {k r1 r2 : Nat} {d : Int} (hne : r1 ≠ r2) : ∀ (m j : Nat) (a b c e : Int) (z : List Value) (L : LHeap), m ≤ 3 → m < j → z.length = 4 → L[r1]? = some (.cells [iV a, iV b, iV c, iV e] 115 false 0) → L[r2]? = some (.cells z 115 false 0) →
    ∃ L', f73_l4 k j d r1 r2 (m : Int) L = some (.ret (.agg ((d :: [a, b, c, e].eraseIdx m).map iV).toArray) L') ∧ L'.length = L.length ∧ ∀ x, x ≠ r1 → x ≠ r2 → L'[x]? = L[x]? := by
  intro m
  induction m with
  | zero =>
    intro j a b c e z L hm hj hz h1 h2
    obtain ⟨j, rfl⟩ : ∃ j', j = j' + 1 := ⟨j - 1, by omega⟩
    rw [f73_l4_eq, decide_eq_false (by omega), lif_false]
    simp only [mk_add, Nat.zero_add]
    rw [stores_of h1 (by simp), obind_some]
    have g1 : (L.set r1 (.cells (setAll [iV a, iV b, iV c, iV e] 0 [Value.int .i64 d]) 115 false 0))[r1]? = some (.cells [iV d, iV b, iV c, iV e] 115 false 0) := get_set_self h1
    have g2 : (L.set r1 (.cells (setAll [iV a, iV b, iV c, iV e] 0 [Value.int .i64 d]) 115 false 0))[r2]? = some (.cells z 115 false 0) := by rw [get_set_ne hne, h2]
    have gl : (L.set r1 (.cells (setAll [iV a, iV b, iV c, iV e] 0 [Value.int .i64 d]) 115 false 0)).length = L.length := by simp
    have gk : ∀ x, x ≠ r1 → (L.set r1 (.cells (setAll [iV a, iV b, iV c, iV e] 0 [Value.int .i64 d]) 115 false 0))[x]? = L[x]? := fun x hx => get_set_ne (Ne.symm hx)
    generalize L.set r1 (.cells (setAll [iV a, iV b, iV c, iV e] 0 [Value.int .i64 d]) 115 false 0) = L1 at *
    have c0 : cell L1 ⟨r1, 0, none⟩ = some (.int .i64 d) := cellv g1 rfl
    have c1 : cell L1 ⟨r1, 1, none⟩ = some (.int .i64 b) := cellv g1 rfl
    have c2 : cell L1 ⟨r1, 2, none⟩ = some (.int .i64 c) := cellv g1 rfl
    have c3 : cell L1 ⟨r1, 3, none⟩ = some (.int .i64 e) := cellv g1 rfl
    simp only [c0, c1, c2, c3, Option.bind_some, asI_int, obind_some]
    rw [stores_all (news := [.int .i64 d, .int .i64 b, .int .i64 c, .int .i64 e]) g2 (by rw [hz]; rfl), obind_some]
    have k2 : (L1.set r2 (.cells [.int .i64 d, .int .i64 b, .int .i64 c, .int .i64 e] 115 false 0))[r2]? = some (.cells [.int .i64 d, .int .i64 b, .int .i64 c, .int .i64 e] 115 false 0) := get_set_self g2
    have kl : (L1.set r2 (.cells [.int .i64 d, .int .i64 b, .int .i64 c, .int .i64 e] 115 false 0)).length = L1.length := by simp
    have kk : ∀ x, x ≠ r2 → (L1.set r2 (.cells [.int .i64 d, .int .i64 b, .int .i64 c, .int .i64 e] 115 false 0))[x]? = L1[x]? := fun x hx => get_set_ne (Ne.symm hx)
    generalize L1.set r2 (.cells [.int .i64 d, .int .i64 b, .int .i64 c, .int .i64 e] 115 false 0) = L2 at *
    have e0 : cell L2 ⟨r2, 0, none⟩ = some (.int .i64 d) := cellv k2 rfl
    have e1 : cell L2 ⟨r2, 1, none⟩ = some (.int .i64 b) := cellv k2 rfl
    have e2 : cell L2 ⟨r2, 2, none⟩ = some (.int .i64 c) := cellv k2 rfl
    have e3 : cell L2 ⟨r2, 3, none⟩ = some (.int .i64 e) := cellv k2 rfl
    simp only [e0, e1, e2, e3, Option.bind_some, asI_int, obind_some]
    exact ⟨L2, rfl, by omega, fun x q1 q2 => by rw [kk x q2, gk x q1]⟩
  | succ m ih =>
    intro j a b c e z L hm hj hz h1 h2
    obtain ⟨j, rfl⟩ : ∃ j', j = j' + 1 := ⟨j - 1, by omega⟩
    have hw : IntKind.wrap .i64 (((m + 1 : Nat) : Int) - 1) = (m : Int) := by rw [wI64 (by omega) (by omega)]; omega
    rw [f73_l4_eq, decide_eq_true (by omega), lif_true, hw, decide_eq_true (by omega), when_true, decide_eq_true (by omega), when_true]
    simp only [mk_add, Nat.zero_add, Int.toNat_natCast, Nat.mul_one]
    have hcell : cell L ⟨r1, m, none⟩ = ([iV a, iV b, iV c, iV e])[m]? := cell_of h1
    obtain rfl | rfl | rfl : m = 0 ∨ m = 1 ∨ m = 2 := by omega
    · have hc : cell L ⟨r1, 0, none⟩ = some (.int .i64 a) := hcell
      simp only [hc, Option.bind_some, asI_int, obind_some]
      rw [decide_eq_true (by omega), when_true, decide_eq_true (by omega), when_true, stores_of h1 (by simp), obind_some]
      obtain ⟨L', e1, e2, e3⟩ := ih j a a c e z (L.set r1 (.cells [iV a, iV a, iV c, iV e] 115 false 0)) (by omega) (by omega) hz (get_set_self h1) (by rw [get_set_ne hne, h2])
      exact ⟨L', e1, by rw [e2, List.length_set], fun x q1 q2 => by rw [e3 x q1 q2, get_set_ne (Ne.symm q1)]⟩
    · have hc : cell L ⟨r1, 1, none⟩ = some (.int .i64 b) := hcell
      simp only [hc, Option.bind_some, asI_int, obind_some]
      rw [decide_eq_true (by omega), when_true, decide_eq_true (by omega), when_true, stores_of h1 (by simp), obind_some]
      obtain ⟨L', e1, e2, e3⟩ := ih j a b b e z (L.set r1 (.cells [iV a, iV b, iV b, iV e] 115 false 0)) (by omega) (by omega) hz (get_set_self h1) (by rw [get_set_ne hne, h2])
      exact ⟨L', e1, by rw [e2, List.length_set], fun x q1 q2 => by rw [e3 x q1 q2, get_set_ne (Ne.symm q1)]⟩
    · have hc : cell L ⟨r1, 2, none⟩ = some (.int .i64 c) := hcell
      simp only [hc, Option.bind_some, asI_int, obind_some]
      rw [decide_eq_true (by omega), when_true, decide_eq_true (by omega), when_true, stores_of h1 (by simp), obind_some]
      obtain ⟨L', e1, e2, e3⟩ := ih j a b c c z (L.set r1 (.cells [iV a, iV b, iV c, iV c] 115 false 0)) (by omega) (by omega) hz (get_set_self h1) (by rw [get_set_ne hne, h2])
      exact ⟨L', e1, by rw [e2, List.length_set], fun x q1 q2 => by rw [e3 x q1 q2, get_set_ne (Ne.symm q1)]⟩
theorem front_ok {k : Nat} {a b c e d : Int} {L : LHeap} (hk : 20 ≤ k) :
    ∃ L', f73 k a b c e d L = some (.ret (.agg ((frontR [a, b, c, e] d).map iV).toArray) L') ∧ Step [] L [] L' := by
  obtain ⟨k, rfl⟩ : ∃ k', k = k' + 1 := ⟨k - 1, by omega⟩
  rw [f73_eq]
  have n1 : (L ++ [LBlk.cells [Value.int .i64 a, Value.int .i64 b, Value.int .i64 c, Value.int .i64 e] 115 false 0])[L.length]? = some (.cells ([a, b, c, e].map iV) 115 false 0) := get_new
  have l1 : (L ++ [LBlk.cells [Value.int .i64 a, Value.int .i64 b, Value.int .i64 c, Value.int .i64 e] 115 false 0]).length = L.length + 1 := by simp
  have s1 := Step.push [] L [LBlk.cells [Value.int .i64 a, Value.int .i64 b, Value.int .i64 c, Value.int .i64 e] 115 false 0]
  generalize L ++ [LBlk.cells [Value.int .i64 a, Value.int .i64 b, Value.int .i64 c, Value.int .i64 e] 115 false 0] = L1 at *
  have n2 : (L1 ++ [LBlk.cells [Value.int .i64 0, Value.int .i64 0, Value.int .i64 0, Value.int .i64 0] 115 false 0])[L1.length]? = some (.cells [.int .i64 0, .int .i64 0, .int .i64 0, .int .i64 0] 115 false 0) := get_new
  have l2 : (L1 ++ [LBlk.cells [Value.int .i64 0, Value.int .i64 0, Value.int .i64 0, Value.int .i64 0] 115 false 0]).length = L1.length + 1 := by simp
  have s2 := Step.push [] L1 [LBlk.cells [Value.int .i64 0, Value.int .i64 0, Value.int .i64 0, Value.int .i64 0] 115 false 0]
  generalize L1 ++ [LBlk.cells [Value.int .i64 0, Value.int .i64 0, Value.int .i64 0, Value.int .i64 0] 115 false 0] = L2 at *
  have m1 : L2[L.length]? = some (.cells ([a, b, c, e].map iV) 115 false 0) := by rw [s2.keep _ (by omega) (by simp), n1]
  rw [show (4 : Nat) = [a, b, c, e].length from rfl, cut_all (by simp) (by simp), obind_some]
  have hrd : Rd L2 ⟨some ⟨L.length, 0, none⟩, [a, b, c, e].length, [a, b, c, e].length⟩ ([a, b, c, e].map iV) [L.length] :=
    ⟨by simp, .inr ⟨L.length, 0, _, 115, false, 0, rfl, m1, fun i _ => by rw [Nat.zero_add], rfl⟩⟩
  rw [slot_ok hrd (by simp) (by simp; omega), lbind_ret, asI_int, obind_some]
  have key : ∀ m : Nat, m ≤ 3 → (slotOf [a, b, c, e] d).getD 3 = m → ∃ L', f73_l4 k k d L.length L1.length (m : Int) L2 = some (.ret (.agg ((frontR [a, b, c, e] d).map iV).toArray) L') ∧ Step [] L [] L' := fun m hm hsl => by
    obtain ⟨L', e1, e2, e3⟩ := front_loop (k := k) (r1 := L.length) (r2 := L1.length) (d := d) (by omega) m k a b c e _ L2 hm (by omega) rfl m1 n2
    refine ⟨L', by rw [e1, frontR, hsl], ⟨by omega, fun x hx _ => ?_, fun x hx => by cases hx⟩⟩
    rw [e3 x (by omega) (by omega), s2.keep x (by omega) (by simp), s1.keep x hx (by simp)]
  unfold slotV
  cases hsl : slotOf [a, b, c, e] d with
  | none =>
    simp only
    rw [decide_eq_true (by omega), lif_true]
    have := key 3 (by omega) (by rw [hsl]; rfl)
    simpa using this
  | some q =>
    have hq := slotOf_lt hsl
    simp only [List.length_cons, List.length_nil] at hq
    simp only
    rw [decide_eq_false (by omega), lif_false]
    exact key q (by omega) (by rw [hsl]; rfl)
end Go.Proofs.Ytflhogapjmdkaaa.X
end

section
set_option maxRecDepth 100000
set_option linter.unusedVariables false
namespace Go.Proofs.Ytflhogapjmdkaaa.X
open Go Go.Rlm
/-- A token more. -/
theorem tok_more {t : Tok} {acc : List Tok} {l : Sl} {G : List Nat} {L : LHeap} {ty : TypeId} (h : OZ L l (acc.flatMap tokL) 29 5 G) (hn : acc.length < 2 ^ 40) :
    ∃ s' L' G', Rlm.app L 29 5 32 l 1 (tokL t) = some (s', L') ∧ OZ L' s' ((acc ++ [t]).flatMap tokL) 29 5 G' ∧ Step G L G' L' := by
  have hln : l.n = acc.length := by
    have := h.1
    rw [tokList_len] at this
    omega
  obtain ⟨s', L', G', h1, h2, h3, h4⟩ := h.app (tokL t) 1 32 (by omega) rfl (by omega) (by omega)
  exact ⟨s', L', G', h1, by rw [List.flatMap_append]; simpa using h2, h4⟩
/-- What a match leaves: its token, the row. -/
theorem match_end {k j r r4 r8 : Nat} {s : ByteArray} {i n d : Int} {t : Tok} {acc : List Tok} {l : Sl} {row : List Int} {G : List Nat} {L : LHeap} (h : OZ L l (acc.flatMap tokL) 29 5 G) (ht : L[r8]? = some (.cells (tokL t) 29 false 0))
    (hrow : L[r4]? = some (.cells (row.map iV) 115 false 0)) (hr4 : row.length = 4) (hG : r4 ∉ G) (hn : acc.length < 2 ^ 40) (hk : 30 ≤ k) :
    ∃ L' l' G', f42_c15 k j s r l r4 i n d r8 L = f42_l5 k j s r l' r4 (IntKind.wrap .i64 (i + n)) L' ∧ OZ L' l' ((acc ++ [t]).flatMap tokL) 29 5 G' ∧ L'[r4]? = some (.cells ((frontR row d).map iV) 115 false 0) ∧
      Step (r4 :: G) L (r4 :: G') L' ∧ r4 ∉ G' := by
  have c0 : cell L ⟨r8, 0, none⟩ = some (.int .u8 t.k) := cellv ht rfl
  have c1 : cell L ⟨r8, 1, none⟩ = some (.int .u8 t.b) := cellv ht rfl
  have c2 : cell L ⟨r8, 2, none⟩ = some (.int .i64 t.l) := cellv ht rfl
  have c3 : cell L ⟨r8, 3, none⟩ = some (.int .i64 t.d) := cellv ht rfl
  have c4 : cell L ⟨r8, 4, none⟩ = some (.int .i64 t.s) := cellv ht rfl
  rw [f42_c15_eq]
  simp only [size29, bytes29, mk_add, Nat.zero_add, c0, c1, c2, c3, c4, Option.bind_some, asI_int, obind_some, src_tok]
  have hr4L := get_lt hrow
  obtain ⟨l', L2, G', e1, e2, e3⟩ := tok_more (t := t) (ty := 29) (h.mono (L' := L ++ [LBlk.cells (tokL t) 29 false 0]) fun x hx => get_push (h.within x hx)) hn
  have e1 : Rlm.app (L ++ [LBlk.cells [Value.int .u8 t.k, .int .u8 t.b, .int .i64 t.l, .int .i64 t.d, .int .i64 t.s] 29 false 0]) 29 5 32 l 1 [Value.int .u8 t.k, .int .u8 t.b, .int .i64 t.l, .int .i64 t.d, .int .i64 t.s] = some (l', L2) := e1
  rw [e1, obind_some]
  have hrow2 : L2[r4]? = some (.cells (row.map iV) 115 false 0) := by rw [e3.keep r4 (by simp; omega) hG, get_push hr4L, hrow]
  have hG' : r4 ∉ G' := fun q => by
    rcases e3.foot r4 q with w | w
    · exact hG w
    · simp at w; omega
  match row, hr4 with
  | [a, b, c, e], _ =>
    have d0 : cell L2 ⟨r4, 0, none⟩ = some (.int .i64 a) := cellv hrow2 rfl
    have d1 : cell L2 ⟨r4, 1, none⟩ = some (.int .i64 b) := cellv hrow2 rfl
    have d2 : cell L2 ⟨r4, 2, none⟩ = some (.int .i64 c) := cellv hrow2 rfl
    have d3 : cell L2 ⟨r4, 3, none⟩ = some (.int .i64 e) := cellv hrow2 rfl
    simp only [d0, d1, d2, d3, Option.bind_some, asI_int, obind_some]
    obtain ⟨L3, g1, g2⟩ := front_ok (k := k) (a := a) (b := b) (c := c) (e := e) (d := d) (L := L2) (by omega)
    rw [g1, lbind_ret]
    have hfl := frontR_length (row := [a, b, c, e]) rfl d
    have hrow3 : L3[r4]? = some (.cells ([a, b, c, e].map iV) 115 false 0) := by rw [g2.keep r4 (get_lt hrow2) (by simp), hrow2]
    have hOZ3 : OZ L3 l' ((acc ++ [t]).flatMap tokL) 29 5 G' := e2.mono fun x hx => g2.keep x (e2.within x hx) (by simp)
    have stA : Step (r4 :: G) L (r4 :: G') L3 := by
      refine ⟨by have := e3.len; have := g2.len; simp at *; omega, fun x hx hn => ?_, fun x hx => ?_⟩
      · rw [g2.keep x (by have := e3.len; simp at this; omega) (by simp), e3.keep x (by simp; omega) (fun q => hn (by simp [q])), get_push hx]
      · rcases List.mem_cons.1 hx with rfl | hx
        · exact .inl (by simp)
        · rcases e3.foot x hx with w | w
          · exact .inl (by simp [w])
          · simp at w; exact .inr (by omega)
    match hf : frontR [a, b, c, e] d, hfl with
    | [a', b', c', e'], _ =>
      simp only [List.map_cons, List.map_nil, iV, show (List.length ((fun l => List.flatten (List.replicate 4 l)) [Leaf.i IntKind.i64])) = 4 from rfl]
      rw [show aggL 4 (Value.agg [Value.int .i64 a', .int .i64 b', .int .i64 c', .int .i64 e'].toArray) = some [Value.int .i64 a', .int .i64 b', .int .i64 c', .int .i64 e'] from rfl, obind_some]
      simp only [uncons_cons, asI_int, obind_some]
      rw [stores_all (news := [.int .i64 a', .int .i64 b', .int .i64 c', .int .i64 e']) hrow3 rfl, obind_some]
      exact ⟨_, l', G', rfl, hOZ3.mono fun x hx => get_set_ne fun q => hG' (q ▸ hx), get_set_self hrow3, stA.trans (Step.set _ (by simp)), hG'⟩
theorem find_loop {k r r3 : Nat} {s : ByteArray} (hs : s.size < 2 ^ 38) (hk : s.size + 500 ≤ k) : ∀ (q i j : Nat) (row : List Int) (acc : List Tok) (l : Sl) (known : Nat) (F G : List Nat) (L : LHeap), s.size ≤ i + q → i ≤ s.size → q < j → row.length = 4 → acc.length ≤ i →
    FI L r s known F → OZ L l (acc.flatMap tokL) 29 5 G → L[r3]? = some (.cells (row.map iV) 115 false 0) → r3 ∉ F → r3 ∉ G → Apart F G →
    ∃ L' l' G', f42_l5 k j s r l r3 (i : Int) L = some (.ret (.slice l'.a l'.n l'.c) L') ∧ OZ L' l' ((acc ++ findT (bytesL s) q i row).flatMap tokL) 29 5 G' ∧ Step (r3 :: (F ++ G)) L G' L' := by
  intro q
  induction q with
  | zero =>
    intro i j row acc l known F G L h1 h2 h3 h4 h5 hF hG hr n1 n2 n3
    obtain ⟨j, rfl⟩ : ∃ j', j = j' + 1 := ⟨j - 1, by omega⟩
    refine ⟨L, l, G, ?_, by simpa [findT] using hG, (Step.refl (r3 :: (F ++ G)) L).less fun x hx => .inl (by simp [hx])⟩
    rw [f42_l5_eq, decide_eq_false (by omega), lif_false]
  | succ q ih =>
    intro i j row acc l known F G L h1 h2 h3 h4 h5 hF hG hr n1 n2 n3
    obtain ⟨j, rfl⟩ : ∃ j', j = j' + 1 := ⟨j - 1, by omega⟩
    rw [f42_l5_eq]
    by_cases hi : i < s.size
    case neg =>
      refine ⟨L, l, G, by rw [decide_eq_false (by omega), lif_false], ?_, (Step.refl (r3 :: (F ++ G)) L).less fun x hx => .inl (by simp [hx])⟩
      unfold findT
      rw [if_neg (by rw [bytesL_len]; omega)]
      simpa using hG
    rw [decide_eq_true (by omega), lif_true]
    obtain ⟨L1, F1, known1, a1, a2, a3⟩ := longest_run (k := k) hF (by omega) (by omega) (by omega)
    have hok := longest_ok (bytesL s) i
    generalize hp : longest (bytesL s) i = p at a1 hok
    obtain ⟨n, d⟩ := p
    rw [a1, lbind_ret]
    rw [tupL_tuple, obind_some, uncons_cons, asI_int, obind_some, uncons_cons, asI_int, obind_some, nilL_nil]
    obtain ⟨L2, F2, known2, b1, b2, b3⟩ := longest_run (k := k) (i := i + 1) a2 (by omega) (by omega) (by omega)
    generalize hp' : longest (bytesL s) (i + 1) = p' at b1
    obtain ⟨n', d'⟩ := p'
    rw [wI64 (by omega) (by omega), show (i : Int) + 1 = ((i + 1 : Nat) : Int) by omega, b1, lbind_ret]
    rw [tupL_tuple, obind_some, uncons_cons, asI_int, obind_some, uncons_cons, asI_int, obind_some, nilL_nil]
    have st2 := a3.trans b3
    have hFL := hF.within
    have hGL := hG.within
    have hrL := get_lt hr
    have hF2 : ∀ x ∈ F2, x ∈ F ∨ L.length ≤ x := st2.foot
    have hG2 : OZ L2 l (acc.flatMap tokL) 29 5 G := hG.mono fun x hx => st2.keep x (hGL x hx) fun w => n3 x w hx
    have hr2 : L2[r3]? = some (.cells (row.map iV) 115 false 0) := by rw [st2.keep r3 hrL n1, hr]
    have n12 : r3 ∉ F2 := fun w => by rcases hF2 r3 w with w | w; exact n1 w; omega
    have n32 : Apart F2 G := fun x hx hg => by
      rcases hF2 x hx with w | w
      · exact n3 x w hg
      · have := hGL x hg; omega
    have stF : Step (r3 :: (F ++ G)) L (r3 :: (F2 ++ G)) L2 := ⟨st2.len, fun x hx hn => st2.keep x hx fun w => hn (by simp [w]), fun x hx => by
      simp only [List.mem_cons, List.mem_append] at hx ⊢
      rcases hx with rfl | hx | hx
      · exact .inl (.inl rfl)
      · rcases hF2 x hx with w | w
        · exact .inl (.inr (.inl w))
        · exact .inr w
      · exact .inl (.inr (.inr hx))⟩
    have hlen2 := st2.len
    unfold findT
    rw [if_pos (by rw [bytesL_len]; omega), hp, hp']
    simp only at hok ⊢
    -- a literal
    have lit : (fuel k (f42_c9 k j s r l r3 (i : Int) L2) = f42_c9 k j s r l r3 (i : Int) L2) := fuel_pos (by omega) _
    by_cases hc : n = 0 ∨ n < n'
    · rw [if_pos hc]
      have hway : (lif (((n : Nat) : Int) == 0) (fuel k (f42_c9 k j s r l r3 (i : Int) L2)) (lif (decide ((n' : Int) > ((n : Nat) : Int))) (fuel k (f42_c9 k j s r l r3 (i : Int) L2)) (fuel k (f42_c11 k j s r l r3 (i : Int) (n : Nat) (d : Nat) L2)))) = f42_c9 k j s r l r3 (i : Int) L2 := by
        rw [lit]
        rcases hc with hc | hc
        · rw [show (((n : Nat) : Int) == 0) = true by simp [hc], lif_true]
        · cases hz : (((n : Nat) : Int) == 0)
          · rw [lif_false, decide_eq_true (by omega), lif_true]
          · rw [lif_true]
      rw [hway, f42_c9_eq]
      obtain ⟨y1, y2⟩ := byteAt_some hi
      simp only [size29, bytes29, y1, obind_some, src_tok]
      obtain ⟨l', L3, G', e1, e2, e3⟩ := tok_more (t := ⟨1, ((bytesL s).getD i 0 : Nat), 0, 0, 0⟩) (ty := 29) (hG2.mono (L' := L2 ++ [LBlk.cells [Value.int .u8 1, .int .u8 ((bytesL s).getD i 0 : Nat), .int .i64 0, .int .i64 0, .int .i64 0] 29 false 0]) fun x hx => get_push (hG2.within x hx)) (by omega)
      have e1 : Rlm.app (L2 ++ [LBlk.cells [Value.int .u8 1, .int .u8 ((bytesL s).getD i 0 : Nat), .int .i64 0, .int .i64 0, .int .i64 0] 29 false 0]) 29 5 32 l 1 [Value.int .u8 1, .int .u8 ((bytesL s).getD i 0 : Nat), .int .i64 0, .int .i64 0, .int .i64 0] = some (l', L3) := e1
      rw [e1, obind_some, wI64 (by omega) (by omega), show (i : Int) + 1 = ((i + 1 : Nat) : Int) by omega]
      have hF2L := b2.within
      have k3 : ∀ x, x < L2.length → x ∉ G → L3[x]? = L2[x]? := fun x hx hn => by rw [e3.keep x (by simp; omega) hn, get_push hx]
      have hG3 : ∀ x ∈ G', x ∈ G ∨ L2.length ≤ x := fun x hx => by
        rcases e3.foot x hx with w | w
        · exact .inl w
        · simp at w; exact .inr (by omega)
      obtain ⟨L', l2, G2, g1, g2, g3⟩ := ih (i + 1) j row (acc ++ [⟨1, ((bytesL s).getD i 0 : Nat), 0, 0, 0⟩]) l' known2 F2 G' L3 (by omega) (by omega) (by omega) h4 (by simp; omega) (b2.mono fun x hx => k3 x (hF2L x hx) fun w => n32 x hx w) e2
        (by rw [k3 r3 (by omega) n2, hr2]) n12 (fun w => by rcases hG3 r3 w with w | w; exact n2 w; omega) (fun x hx hg => by
          rcases hG3 x hg with w | w
          · exact n32 x hx w
          · have := hF2L x hx; omega)
      refine ⟨L', l2, G2, g1, by simpa [List.append_assoc] using g2, stF.trans (Step.trans ?_ g3)⟩
      refine ⟨by have := e3.len; simp at this; omega, fun x hx hn => k3 x hx fun w => hn (by simp [w]), fun x hx => ?_⟩
      simp only [List.mem_cons, List.mem_append] at hx ⊢
      rcases hx with rfl | hx | hx
      · exact .inl (.inl rfl)
      · exact .inl (.inr (.inl hx))
      · rcases hG3 x hx with w | w
        · exact .inl (.inr (.inr w))
        · exact .inr w
    · rw [if_neg hc]
      obtain ⟨o1, o2, o3, o4, o5, _⟩ : 3 ≤ n ∧ n ≤ min 258 ((bytesL s).length - i) ∧ 1 ≤ d ∧ d ≤ i ∧ d ≤ 32768 ∧ True := by
        rcases hok with h0 | ⟨w1, w2, w3, w4, w5, _⟩
        · injection h0 with h0 h00
          exact absurd (.inl h0) hc
        · exact ⟨w1, w2, w3, w4, w5, trivial⟩
      have hway : (lif (((n : Nat) : Int) == 0) (fuel k (f42_c9 k j s r l r3 (i : Int) L2)) (lif (decide ((n' : Int) > ((n : Nat) : Int))) (fuel k (f42_c9 k j s r l r3 (i : Int) L2)) (fuel k (f42_c11 k j s r l r3 (i : Int) (n : Nat) (d : Nat) L2)))) = f42_c11 k j s r l r3 (i : Int) (n : Nat) (d : Nat) L2 := by
        rw [show (((n : Nat) : Int) == 0) = false by simp; omega, lif_false, decide_eq_false (by omega), lif_false, fuel_pos (by omega)]
      rw [hway]
      rw [bytesL_len] at o2
      rw [f42_c11_eq]
      have t1 : (L2 ++ [LBlk.cells [Value.int .u8 0, Value.int .u8 0, Value.int .i64 0, Value.int .i64 0, Value.int .i64 0] 29 false 0])[L2.length]? = some (.cells [Value.int .u8 0, Value.int .u8 0, Value.int .i64 0, Value.int .i64 0, Value.int .i64 0] 29 false 0) := get_new
      rw [stores_all (news := [Value.int .u8 2, Value.int .u8 0, Value.int .i64 (n : Int), Value.int .i64 (d : Int), Value.int .i64 0]) t1 rfl, obind_some]
      have t2 : ((L2 ++ [LBlk.cells [Value.int .u8 0, Value.int .u8 0, Value.int .i64 0, Value.int .i64 0, Value.int .i64 0] 29 false 0]).set L2.length (.cells [Value.int .u8 2, Value.int .u8 0, Value.int .i64 (n : Int), Value.int .i64 (d : Int), Value.int .i64 0] 29 false 0))[L2.length]? =
          some (.cells (tokL ⟨2, 0, n, d, 0⟩) 29 false 0) := get_set_self t1
      have t3 : ∀ x, x < L2.length → ((L2 ++ [LBlk.cells [Value.int .u8 0, Value.int .u8 0, Value.int .i64 0, Value.int .i64 0, Value.int .i64 0] 29 false 0]).set L2.length (.cells [Value.int .u8 2, Value.int .u8 0, Value.int .i64 (n : Int), Value.int .i64 (d : Int), Value.int .i64 0] 29 false 0))[x]? = L2[x]? := fun x hx => by
        rw [get_set_ne (by omega), get_push hx]
      have t4 : ((L2 ++ [LBlk.cells [Value.int .u8 0, Value.int .u8 0, Value.int .i64 0, Value.int .i64 0, Value.int .i64 0] 29 false 0]).set L2.length (.cells [Value.int .u8 2, Value.int .u8 0, Value.int .i64 (n : Int), Value.int .i64 (d : Int), Value.int .i64 0] 29 false 0)).length = L2.length + 1 := by simp
      generalize (L2 ++ [LBlk.cells [Value.int .u8 0, Value.int .u8 0, Value.int .i64 0, Value.int .i64 0, Value.int .i64 0] 29 false 0]).set L2.length (.cells [Value.int .u8 2, Value.int .u8 0, Value.int .i64 (n : Int), Value.int .i64 (d : Int), Value.int .i64 0] 29 false 0) = L3 at *
      rw [cut_all (by omega) (by omega), obind_some]
      have hr3 : L3[r3]? = some (.cells (row.map iV) 115 false 0) := by rw [t3 r3 (by omega), hr2]
      have hrd : Rd L3 ⟨some ⟨r3, 0, none⟩, 4, 4⟩ (row.map iV) [r3] := ⟨by simp [h4], .inr ⟨r3, 0, _, 115, false, 0, rfl, hr3, fun x _ => by rw [Nat.zero_add], rfl⟩⟩
      rw [slot_ok hrd (by omega) (by omega), lbind_ret, asI_int, obind_some]
      have hF2L := b2.within
      have hG2L := hG2.within
      -- the rest, whatever the token
      have rest : ∀ (t : Tok) (L4 : LHeap), L4[L2.length]? = some (.cells (tokL t) 29 false 0) → (∀ x, x < L2.length → L4[x]? = L2[x]?) → L4.length = L2.length + 1 → t = tokAt row n d →
          ∃ L' l' G', f42_c15 k j s r l r3 (i : Int) (n : Int) (d : Int) L2.length L4 = some (.ret (.slice l'.a l'.n l'.c) L') ∧ OZ L' l' ((acc ++ tokAt row n d :: findT (bytesL s) q (i + n) (frontR row (d : Int))).flatMap tokL) 29 5 G' ∧ Step (r3 :: (F ++ G)) L G' L' := by
        intro t L4 u1 u2 u3 ht
        obtain ⟨L5, l', G', v1, v2, v3, v4, v5⟩ := match_end (k := k) (j := j) (r := r) (r4 := r3) (r8 := L2.length) (s := s) (i := (i : Int)) (n := (n : Int)) (d := (d : Int)) (t := t) (row := row) (hG2.mono fun x hx => u2 x (hG2L x hx)) u1 (by rw [u2 r3 (by omega), hr2]) h4 n2 (by omega) (by omega)
        rw [v1, wI64 (by omega) (by omega), show (i : Int) + (n : Int) = ((i + n : Nat) : Int) by omega]
        have hG' : ∀ x ∈ G', x ∈ G ∨ L4.length ≤ x := fun x hx => by
          rcases v4.foot x (by simp [hx]) with w | w
          · rcases List.mem_cons.1 w with rfl | w
            · exact absurd hx v5
            · exact .inl w
          · exact .inr w
        have k5 : ∀ x ∈ F2, L5[x]? = L2[x]? := fun x hx => by
          have := hF2L x hx
          rw [v4.keep x (by omega) (fun w => by
            rcases List.mem_cons.1 w with rfl | w
            · exact n12 hx
            · exact n32 x hx w), u2 x this]
        obtain ⟨L', l2, G2, g1, g2, g3⟩ := ih (i + n) j (frontR row (d : Int)) (acc ++ [t]) l' known2 F2 G' L5 (by omega) (by omega) (by omega) (frontR_length h4 _) (by simp; omega) (b2.mono k5) v2 v3 n12 v5 (fun x hx hg => by
          rcases hG' x hg with w | w
          · exact n32 x hx w
          · have := hF2L x hx; omega)
        refine ⟨L', l2, G2, g1, by rw [ht] at g2; simpa [List.append_assoc] using g2, stF.trans (Step.trans ?_ g3)⟩
        refine ⟨by have := v4.len; omega, fun x hx hn => ?_, fun x hx => ?_⟩
        · rw [v4.keep x (by omega) (fun w => hn (by
            rcases List.mem_cons.1 w with rfl | w
            · simp
            · simp [w])), u2 x hx]
        · simp only [List.mem_cons, List.mem_append] at hx ⊢
          rcases hx with rfl | hx | hx
          · exact .inl (.inl rfl)
          · exact .inl (.inr (.inl hx))
          · rcases hG' x hx with w | w
            · exact .inl (.inr (.inr w))
            · exact .inr (by omega)
      unfold slotV
      cases hsl : slotOf row (d : Int) with
      | none =>
        simp only
        rw [decide_eq_false (by omega), lif_false, fuel_pos (by omega)]
        exact rest ⟨2, 0, n, d, 0⟩ L3 t2 t3 t4 (by unfold tokAt; rw [hsl])
      | some z =>
        simp only
        rw [decide_eq_true (by omega), lif_true, stores_all (news := [Value.int .u8 3, Value.int .u8 0, Value.int .i64 (n : Int), Value.int .i64 0, Value.int .i64 (z : Int)]) t2 rfl, obind_some, fuel_pos (by omega)]
        exact rest ⟨3, 0, n, 0, z⟩ _ (get_set_self t2) (fun x hx => by rw [get_set_ne (by omega), t3 x hx]) (by simp [t4]) (by unfold tokAt; rw [hsl])
theorem find_ok {k : Nat} {s : ByteArray} {L : LHeap} (hs : s.size < 2 ^ 38) (hk : s.size + 510 ≤ k) :
    ∃ L' l G, f42 k s L = some (.ret (.slice l.a l.n l.c) L') ∧ OZ L' l ((findToks (bytesL s)).flatMap tokL) 29 5 G ∧ Step [] L G L' := by
  obtain ⟨k, rfl⟩ : ∃ k', k = k' + 1 := ⟨k - 1, by omega⟩
  rw [f42_eq]
  have n1 : (L ++ [LBlk.map [] 0])[L.length]? = some (.map [] 0) := get_new
  have l1 : (L ++ [LBlk.map [] 0]).length = L.length + 1 := by simp
  have s1 := Step.push [] L [LBlk.map [] 0]
  generalize L ++ [LBlk.map [] 0] = L1 at *
  have n2 : (L1 ++ [LBlk.cells [Value.string s, Value.map (some L.length), Value.int .i64 0] 114 false 0])[L1.length]? = some (.cells [.string s, .map (some L.length), .int .i64 0] 114 false 0) := get_new
  have l2 : (L1 ++ [LBlk.cells [Value.string s, Value.map (some L.length), Value.int .i64 0] 114 false 0]).length = L1.length + 1 := by simp
  have s2 := Step.push [] L1 [LBlk.cells [Value.string s, Value.map (some L.length), Value.int .i64 0] 114 false 0]
  generalize L1 ++ [LBlk.cells [Value.string s, Value.map (some L.length), Value.int .i64 0] 114 false 0] = L2 at *
  have n3 : (L2 ++ [LBlk.cells [Value.int .i64 0, Value.int .i64 0, Value.int .i64 0, Value.int .i64 0] 115 false 0])[L2.length]? = some (.cells (([0, 0, 0, 0] : List Int).map iV) 115 false 0) := get_new
  have l3 : (L2 ++ [LBlk.cells [Value.int .i64 0, Value.int .i64 0, Value.int .i64 0, Value.int .i64 0] 115 false 0]).length = L2.length + 1 := by simp
  have s3 := Step.push [] L2 [LBlk.cells [Value.int .i64 0, Value.int .i64 0, Value.int .i64 0, Value.int .i64 0] 115 false 0]
  generalize L2 ++ [LBlk.cells [Value.int .i64 0, Value.int .i64 0, Value.int .i64 0, Value.int .i64 0] 115 false 0] = L3 at *
  have hFI : FI L3 L1.length s 0 [L1.length, L.length] := ⟨L.length, [], 0, ⟨by rw [s3.keep _ (by omega) (by simp), n2]; rfl, by rw [s3.keep _ (by omega) (by simp), s2.keep _ (by omega) (by simp), n1]; rfl, by simp, by simp, by simp, fun p hp => by omega, by simp, ⟨by omega, by simp, by simp⟩, by omega⟩, rfl⟩
  obtain ⟨L', l, G, e1, e2, e3⟩ := find_loop (k := k) (r := L1.length) (r3 := L2.length) hs (by omega) s.size 0 k [0, 0, 0, 0] [] ⟨none, 0, 0⟩ 0 _ [] L3 (by omega) (by omega) (by omega) rfl (by simp) hFI (OZ.nil _ _ (by omega)) n3 (by simp; omega) (by simp) (fun x hx hg => by cases hg)
  refine ⟨L', l, G, e1, by simpa [findToks, bytesL_len] using e2, ⟨by have := e3.len; omega, fun x hx _ => ?_, fun x hx => ?_⟩⟩
  · rw [e3.keep x (by omega) (by simp; omega), s3.keep x (by omega) (by simp), s2.keep x (by omega) (by simp), s1.keep x hx (by simp)]
  · rcases e3.foot x hx with w | w
    · simp at w; exact .inr (by omega)
    · exact .inr (by omega)
end Go.Proofs.Ytflhogapjmdkaaa.X
end

section
set_option maxRecDepth 100000
set_option linter.unusedVariables false
namespace Go.Proofs.Ytflhogapjmdkaaa.X
open Go Go.Rlm
/-- A text, pressed: its bytes. -/
def pressL (b : List Nat) : List Nat := if (packB (findToks b)).length < b.length then 1 :: packB (findToks b) else 0 :: b
def pressS (s : ByteArray) : ByteArray := strOf (pressL (bytesL s))
theorem cons_str (c : Nat) (hc : c < 256) (s : ByteArray) : ByteArray.mk #[UInt8.ofNat c] ++ s = strOf (c :: bytesL s) := by
  have := strOf_app [c] (bytesL s)
  rw [strOf_bytesL] at this
  exact this
theorem shortest_ok {k : Nat} {s t : ByteArray} {L : LHeap} (hk : 5 ≤ k) :
    f43 k s ⟨some ⟨L.length, 0, none⟩, 1, 1⟩ (L ++ [LBlk.cells [Value.string t] 9 false 0]) = some (.ret (.string (if t.size < s.size then t else s)) (L ++ [LBlk.cells [Value.string t] 9 false 0])) := by
  obtain ⟨k, rfl⟩ : ∃ k', k = k' + 3 := ⟨k - 3, by omega⟩
  have n1 : (L ++ [LBlk.cells [Value.string t] 9 false 0])[L.length]? = some (.cells [.string t] 9 false 0) := get_new
  generalize L ++ [LBlk.cells [Value.string t] 9 false 0] = L1 at *
  have c0 : cell L1 ⟨L.length, 0, none⟩ = some (.string t) := cellv n1 rfl
  have i0 : idx ⟨some ⟨L.length, 0, none⟩, 1, 1⟩ 0 1 = some ⟨L.length, 0, none⟩ := idx_of (i := 0) (by omega)
  rw [f43_eq, f43_l2_eq]
  rw [decide_eq_true (by simp), lif_true, i0, obind_some, c0, Option.bind_some, asS_string, obind_some, wI64 (by omega) (by omega)]
  by_cases h : t.size < s.size
  · rw [decide_eq_true (by omega), lif_true, f43_l2_eq, decide_eq_false (by simp), lif_false, if_pos h]
  · rw [decide_eq_false (by omega), lif_false, f43_l2_eq, decide_eq_false (by simp), lif_false, if_neg h]
theorem press_ok {k : Nat} {s : ByteArray} {L : LHeap} (hs : s.size ≤ 1048576) (hk : s.size + 1500 ≤ k) :
    ∃ L', f22 k s L = some (.ret (.string (pressS s)) L') ∧ Step [] L [] L' := by
  obtain ⟨k, rfl⟩ : ∃ k', k = k' + 1 := ⟨k - 1, by omega⟩
  have hlen := bytesL_len s
  have hfit := findToks_fit (bytesL_lt s) (by omega)
  have hsh := findToks_shape (bytesL_lt s)
  have hlt : (findToks (bytesL s)).length ≤ s.size := by
    have := findT_length (bytesL s) (bytesL s).length 0 [0, 0, 0, 0]
    unfold findToks; omega
  rw [f22_eq, fitsS_ok (by show 1 + s.size < _; omega), when_true]
  obtain ⟨L1, l, G, a1, a2, a3⟩ := find_ok (k := k) (s := s) (L := L) (by omega) (by omega)
  rw [a1, lbind_ret, asSl_slice, obind_some]
  obtain ⟨L2, b1, b2⟩ := pack_ok (k := k) (OZ.rt a2) hfit (by omega)
  have b1' : f14 k ⟨l.a, l.n, l.c⟩ L1 = some (.ret (.tuple #[.string (packStr (findToks (bytesL s))), .int .i64 (packErr (findToks (bytesL s)))]) L2) := b1
  obtain ⟨e1, e2⟩ := packStr_ok hsh
  rw [b1', lbind_ret, tupL_tuple, obind_some, uncons_cons, asS_string, obind_some, uncons_cons, asI_int, obind_some, nilL_nil, e2, show ((0 : Int) != 0) = false from rfl, lif_false, e1]
  have hle := packB_le hfit.1 hsh
  have st : Step [] L [] L2 := (a3.less (G := []) fun i hi => by cases hi).trans b2
  rw [fitsS_ok (by rw [strOf_size]; show 1 + _ < _; omega), when_true]
  have hp : ByteArray.mk #[1] ++ strOf (packB (findToks (bytesL s))) = strOf (1 :: packB (findToks (bytesL s))) := strOf_app [1] _
  have h0 : ByteArray.mk #[0] ++ s = strOf (0 :: bytesL s) := cons_str 0 (by omega) s
  rw [hp, h0, shortest_ok (by omega), lbind_ret, asS_string, obind_some]
  have hS : (if (strOf (1 :: packB (findToks (bytesL s)))).size < (strOf (0 :: bytesL s)).size then strOf (1 :: packB (findToks (bytesL s))) else strOf (0 :: bytesL s)) = pressS s := ?_
  · rw [hS]
    exact ⟨_, rfl, st.trans (Step.push [] L2 _)⟩
  unfold pressS pressL
  rw [strOf_size, strOf_size, List.length_cons, List.length_cons]
  by_cases h : (packB (findToks (bytesL s))).length < (bytesL s).length
  · rw [if_pos (by omega), if_pos h]
  · rw [if_neg (by omega), if_neg h]
theorem pressL_small {b : List Nat} (hb : ∀ x ∈ b, x < 256) (hs : b.length ≤ 1048576) : ∀ x ∈ pressL b, x < 256 := by
  intro x hx
  unfold pressL at hx
  split at hx
  · rcases List.mem_cons.1 hx with rfl | hx
    · omega
    · exact packB_small (findToks_fit hb hs).1 x hx
  · rcases List.mem_cons.1 hx with rfl | hx
    · omega
    · exact hb x hx
def repS (n : Nat) (s : ByteArray) : ByteArray := strOf (repL n (bytesL s))
theorem repL_small {n : Nat} {b : List Nat} (h : ∀ x ∈ b, x < 256) : ∀ x ∈ repL n b, x < 256 := by
  intro x hx
  obtain ⟨l, hl, hx⟩ := List.mem_flatten.1 hx
  rw [List.eq_of_mem_replicate hl] at hx
  exact h x hx
theorem repL_snoc (n : Nat) (b : List Nat) : repL n b ++ b = repL (n + 1) b := by
  unfold repL
  rw [List.replicate_succ', List.flatten_append]
  simp
theorem many_loop {k n : Nat} {s : ByteArray} {L : LHeap} (hs : n * s.size < 2 ^ 50) (hn : n < 2 ^ 40) : ∀ (m i j : Nat), i + m = n → m < j → f23_l3 k j (n : Int) s (repS i s) (i : Int) L = some (.ret (.string (repS n s)) L) := by
  intro m
  induction m with
  | zero =>
    intro i j hi hj
    obtain ⟨j, rfl⟩ : ∃ j', j = j' + 1 := ⟨j - 1, by omega⟩
    rw [f23_l3_eq, decide_eq_false (by omega), lif_false, show i = n by omega]
  | succ m ih =>
    intro i j hi hj
    obtain ⟨j, rfl⟩ : ∃ j', j = j' + 1 := ⟨j - 1, by omega⟩
    have hle : (i + 1) * s.size ≤ n * s.size := Nat.mul_le_mul_right _ (by omega)
    rw [Nat.add_mul] at hle
    have happ : repS i s ++ s = repS (i + 1) s := by
      have := strOf_app (repL i (bytesL s)) (bytesL s)
      rw [strOf_bytesL, repL_snoc] at this
      exact this
    rw [f23_l3_eq, decide_eq_true (by omega), lif_true, fitsS_ok (by rw [repS, strOf_size, repL_length, bytesL_len]; omega), when_true, wI64 (by omega) (by omega), happ, show (i : Int) + 1 = ((i + 1 : Nat) : Int) by omega]
    exact ih (i + 1) j (by omega) (by omega)
theorem many_ok {k n : Nat} {s : ByteArray} {L : LHeap} (hs : n * s.size < 2 ^ 50) (hn : n < 2 ^ 40) (hk : n + 5 ≤ k) : f23 k (n : Int) s L = some (.ret (.string (repS n s)) L) := by
  obtain ⟨k, rfl⟩ : ∃ k', k = k' + 1 := ⟨k - 1, by omega⟩
  rw [f23_eq]
  have := many_loop (k := k) (L := L) hs hn n 0 k (by omega) (by omega)
  exact this
theorem toList_beq (a b : ByteArray) : (a.toList == b.toList) = decide (a = b) := str_beq a b
theorem subS_head {s : ByteArray} (h : 0 < s.size) : subS s none (some 1) = some (s.extract 0 1) := by
  have := bound_at (i := 1) (y := s.size) s.size (by omega)
  simp only [subS, show (1 : Int) = ((1 : Nat) : Int) from rfl, this, bound_out (Nat.zero_le _), Option.bind_eq_bind, Option.bind_some]
theorem subS_tail {s : ByteArray} (h : 0 < s.size) : subS s (some 1) none = some (s.extract 1 s.size) := by
  have := bound_at (i := 1) (y := s.size) 0 (by omega)
  simp only [subS, show (1 : Int) = ((1 : Nat) : Int) from rfl, this, bound_out (Nat.le_refl _), Option.bind_eq_bind, Option.bind_some]
theorem strOf_inj {a b : List Nat} (ha : ∀ x ∈ a, x < 256) (hb : ∀ x ∈ b, x < 256) : strOf a = strOf b ↔ a = b := by
  constructor
  · intro h
    have := congrArg bytesL h
    rwa [bytesL_strOf ha, bytesL_strOf hb] at this
  · intro h; rw [h]
theorem strOf_extract {a : List Nat} (ha : ∀ x ∈ a, x < 256) (i j : Nat) : (strOf a).extract i j = strOf ((a.drop i).take (j - i)) := by
  have e : bytesL ((strOf a).extract i j) = (a.drop i).take (j - i) := by
    have := bytesL_strOf ha
    unfold bytesL at this ⊢
    rw [ByteArray.data_extract, Array.toList_extract, List.extract_eq_take_drop, List.map_take, List.map_drop, this]
  rw [← e, strOf_bytesL]
/-- What is stored. -/
theorem expand_stored {k : Nat} {b : List Nat} {limit : Int} {L : LHeap} (hb : ∀ x ∈ b, x < 256) (hk : 1 ≤ k) :
    f24 k (strOf (0 :: b)) limit L = some (.ret (if (b.length : Int) > limit then .tuple #[.string ⟨#[]⟩, .int .i64 62] else .tuple #[.string (strOf b), .int .i64 0]) L) := by
  obtain ⟨k, rfl⟩ : ∃ k', k = k' + 1 := ⟨k - 1, by omega⟩
  have h0 : ∀ x ∈ 0 :: b, x < 256 := fun x hx => by
    rcases List.mem_cons.1 hx with rfl | hx
    · omega
    · exact hb x hx
  have hsz : (strOf (0 :: b)).size = b.length + 1 := by rw [strOf_size]; rfl
  have e1 : (strOf (0 :: b)).extract 0 1 = strOf [0] := by rw [strOf_extract h0]; rfl
  have e2 : (strOf (0 :: b)).extract 1 (strOf (0 :: b)).size = strOf b := by rw [strOf_extract h0, hsz]; simp
  rw [f24_eq, toList_beq, decide_eq_false (by intro h; have := congrArg ByteArray.size h; rw [hsz] at this; have : b.length + 1 = 0 := this; omega), lif_false, subS_head (by omega), obind_some, subS_tail (by omega), obind_some, e1, e2, toList_beq, toList_beq,
    show ByteArray.mk #[0] = strOf [0] from rfl, decide_eq_true rfl, lif_true, strOf_size]
  by_cases h : (b.length : Int) > limit
  · rw [decide_eq_true h, lif_true, if_pos h]
  · rw [decide_eq_false h, lif_false, lif_true, if_neg h]
/-- Neither stored nor said by tokens. -/
theorem expand_none {k : Nat} {limit : Int} {L : LHeap} (hk : 1 ≤ k) : f24 k ⟨#[]⟩ limit L = some (.ret (.tuple #[.string ⟨#[]⟩, .int .i64 4]) L) := by
  obtain ⟨k, rfl⟩ : ∃ k', k = k' + 1 := ⟨k - 1, by omega⟩
  rw [f24_eq, toList_beq, decide_eq_true rfl, lif_true]
theorem expand_other {k c : Nat} {b : List Nat} {limit : Int} {L : LHeap} (hb : ∀ x ∈ b, x < 256) (hc : 2 ≤ c) (hc2 : c < 256) (hk : 1 ≤ k) : f24 k (strOf (c :: b)) limit L = some (.ret (.tuple #[.string ⟨#[]⟩, .int .i64 4]) L) := by
  obtain ⟨k, rfl⟩ : ∃ k', k = k' + 1 := ⟨k - 1, by omega⟩
  have h0 : ∀ x ∈ c :: b, x < 256 := fun x hx => by
    rcases List.mem_cons.1 hx with rfl | hx
    · omega
    · exact hb x hx
  have hsz : (strOf (c :: b)).size = b.length + 1 := by rw [strOf_size]; rfl
  have e1 : (strOf (c :: b)).extract 0 1 = strOf [c] := by rw [strOf_extract h0]; rfl
  have hs1 : ∀ d : Nat, d < 2 → strOf [c] ≠ strOf [d] := fun d hd h => by
    have := (strOf_inj (by simp; omega) (by simp; omega)).1 h
    simp at this; omega
  rw [f24_eq, toList_beq, decide_eq_false (by intro h; have := congrArg ByteArray.size h; rw [hsz] at this; have : b.length + 1 = 0 := this; omega), lif_false, subS_head (by omega), obind_some, subS_tail (by omega), obind_some, e1, toList_beq, toList_beq,
    show ByteArray.mk #[0] = strOf [0] from rfl, show ByteArray.mk #[1] = strOf [1] from rfl, decide_eq_false (hs1 0 (by omega)), decide_eq_false (hs1 1 (by omega)), lif_false, lif_false, Bool.not_false, lif_true]
/-- Said by tokens that may not be. -/
theorem expand_bad {k : Nat} {b : List Nat} {limit : Int} {L : LHeap} (hb : ∀ x ∈ b, x < 256) (hn : unpackB b = none) (hs : b.length < 2 ^ 25) (hk : 8 * b.length + 1000 ≤ k) :
    ∃ L', f24 k (strOf (1 :: b)) limit L = some (.ret (.tuple #[.string ⟨#[]⟩, .int .i64 4]) L') ∧ Step [] L [] L' := by
  obtain ⟨k, rfl⟩ : ∃ k', k = k' + 1 := ⟨k - 1, by omega⟩
  have h0 : ∀ x ∈ 1 :: b, x < 256 := fun x hx => by
    rcases List.mem_cons.1 hx with rfl | hx
    · omega
    · exact hb x hx
  have hsz : (strOf (1 :: b)).size = b.length + 1 := by rw [strOf_size]; rfl
  have e1 : (strOf (1 :: b)).extract 0 1 = strOf [1] := by rw [strOf_extract h0]; rfl
  have e2 : (strOf (1 :: b)).extract 1 (strOf (1 :: b)).size = strOf b := by rw [strOf_extract h0, hsz]; simp
  have hne : strOf [1] ≠ strOf [0] := fun h => by have := (strOf_inj (by simp) (by simp)).1 h; simp at this
  have hu := unpack_ok (k := k) (s := strOf b) (L := L) (by rw [strOf_size]; omega) (by rw [strOf_size]; omega)
  rw [bytesL_strOf hb, hn] at hu
  obtain ⟨L', u1, u2⟩ := hu
  refine ⟨L', ?_, u2⟩
  rw [f24_eq, toList_beq, decide_eq_false (by intro h; have := congrArg ByteArray.size h; rw [hsz] at this; have : b.length + 1 = 0 := this; omega), lif_false, subS_head (by omega), obind_some, subS_tail (by omega), obind_some, e1, e2, toList_beq, toList_beq,
    show ByteArray.mk #[0] = strOf [0] from rfl, show ByteArray.mk #[1] = strOf [1] from rfl, decide_eq_false hne, decide_eq_true rfl, lif_false, lif_false, Bool.not_true, lif_false, u1, lbind_ret, tupL_tuple, obind_some, uncons_cons, asSl_slice, obind_some, uncons_cons, asI_int, obind_some, nilL_nil]
  rfl
end Go.Proofs.Ytflhogapjmdkaaa.X
end

section
set_option maxRecDepth 100000
set_option linter.unusedVariables false
namespace Go.Proofs.Ytflhogapjmdkaaa.X
open Go Go.Rlm
theorem pressS_none : pressS ⟨#[]⟩ = ⟨#[0]⟩ := by
  unfold pressS pressL
  rw [if_neg (by show ¬ _ < 0; omega)]
  rfl
theorem find_ab : findToks [97, 98] = [⟨1, 97, 0, 0, 0⟩, ⟨1, 98, 0, 0, 0⟩] := by decide +kernel
theorem pack_ab : 2 ≤ (packB [⟨1, 97, 0, 0, 0⟩, ⟨1, 98, 0, 0, 0⟩]).length := by decide +kernel
theorem pressS_ab : pressS ⟨#[97, 98]⟩ = ⟨#[0, 97, 98]⟩ := by
  unfold pressS pressL
  have : bytesL ⟨#[97, 98]⟩ = [97, 98] := rfl
  rw [this, find_ab, if_neg (by have := pack_ab; show ¬ _ < 2; omega)]
  rfl
theorem aaa_toks : findToks (repL 1000 [97]) = [⟨1, 97, 0, 0, 0⟩, ⟨2, 0, 258, 1, 0⟩, ⟨3, 0, 258, 0, 0⟩, ⟨3, 0, 258, 0, 0⟩, ⟨3, 0, 225, 0, 0⟩] := by
  rw [findToks_rep (by simp) (by simp) (by simp)]
  decide +kernel
theorem aaa_pack : (packB [⟨1, 97, 0, 0, 0⟩, ⟨2, 0, 258, 1, 0⟩, ⟨3, 0, 258, 0, 0⟩, ⟨3, 0, 258, 0, 0⟩, ⟨3, 0, 225, 0, 0⟩]).length < 150 := by decide +kernel
theorem aaa_press : (pressS (repS 1000 ⟨#[97]⟩)).size < 200 := by
  have h1 : bytesL (repS 1000 ⟨#[97]⟩) = repL 1000 [97] := bytesL_strOf (repL_small (by simp [bytesL]))
  unfold pressS pressL
  rw [h1, aaa_toks, strOf_size]
  have := aaa_pack
  rw [if_pos (by rw [repL_length]; simp; omega)]
  simp only [List.length_cons] at this ⊢
  omega
theorem works_ok {k : Nat} {L : LHeap} (hk : 3000 ≤ k) : ∃ L', f21 k L = some (.ret (.bool true) L') ∧ Step [] L [] L' := by
  obtain ⟨k, rfl⟩ : ∃ k', k = k' + 1 := ⟨k - 1, by omega⟩
  rw [f21_eq, expand_none (by omega), lbind_ret, tupL_tuple, obind_some, uncons_cons, asS_string, obind_some, uncons_cons, asI_int, obind_some, nilL_nil]
  have e2 : f24 k (ByteArray.mk #[2]) 9 L = _ := expand_other (k := k) (c := 2) (b := []) (limit := 9) (L := L) (by simp) (by omega) (by omega) (by omega)
  rw [e2, lbind_ret, tupL_tuple, obind_some, uncons_cons, asS_string, obind_some, uncons_cons, asI_int, obind_some, nilL_nil]
  have e3 : f24 k (ByteArray.mk #[0, 97, 98]) 1 L = _ := expand_stored (k := k) (b := [97, 98]) (limit := 1) (L := L) (by simp) (by omega)
  rw [if_pos (by decide)] at e3
  rw [e3, lbind_ret, tupL_tuple, obind_some, uncons_cons, asS_string, obind_some, uncons_cons, asI_int, obind_some, nilL_nil]
  have e4 : f24 k (ByteArray.mk #[0, 97, 98]) 2 L = _ := expand_stored (k := k) (b := [97, 98]) (limit := 2) (L := L) (by simp) (by omega)
  rw [if_neg (by decide)] at e4
  rw [e4, lbind_ret, tupL_tuple, obind_some, uncons_cons, asS_string, obind_some, uncons_cons, asI_int, obind_some, nilL_nil]
  obtain ⟨L1, a1, a2⟩ := press_ok (k := k) (s := ⟨#[]⟩) (L := L) (by show 0 ≤ _; omega) (by show 0 + 1500 ≤ k; omega)
  rw [a1, lbind_ret, asS_string, obind_some, pressS_none, toList_beq, decide_eq_true rfl, lif_true]
  obtain ⟨L2, b1, b2⟩ := press_ok (k := k) (s := ⟨#[97, 98]⟩) (L := L1) (by show 2 ≤ _; omega) (by show 2 + 1500 ≤ k; omega)
  rw [b1, lbind_ret, asS_string, obind_some, pressS_ab, toList_beq, decide_eq_true rfl, lif_true]
  have hm := many_ok (k := k) (n := 1000) (s := ⟨#[97]⟩) (L := L2) (by show 1000 * 1 < _; omega) (by omega) (by omega)
  have hm : f23 k 1000 (ByteArray.mk #[97]) L2 = _ := hm
  have hsz : (repS 1000 ⟨#[97]⟩).size = 1000 := by rw [repS, strOf_size, repL_length]; rfl
  rw [hm, lbind_ret, asS_string, obind_some]
  obtain ⟨L3, c1, c2⟩ := press_ok (k := k) (s := repS 1000 ⟨#[97]⟩) (L := L2) (by rw [hsz]; omega) (by rw [hsz]; omega)
  have haaa := aaa_press
  rw [c1, lbind_ret, asS_string, obind_some, decide_eq_true (by omega), lif_true]
  refine ⟨L3, ?_, (a2.trans b2).trans c2⟩
  rw [show ((4 : Int) == 4) = true from rfl, lif_true, lif_true, show ((62 : Int) == 62) = true from rfl, lif_true, toList_beq, show strOf [97, 98] = ByteArray.mk #[97, 98] from rfl, decide_eq_true rfl, lif_true]
  rfl
end Go.Proofs.Ytflhogapjmdkaaa.X
end

section
namespace Go.Rlm
/-- So many bytes more, each az it stands d ahead. -/
def copyN (d : Nat) : Nat → List Nat → List Nat
  | 0, out => out
  | n + 1, out => copyN d n (out ++ [out.getD (out.length - d) 0])
/-- A token's distance, by the row. -/
def distOf (row : List Int) (t : Tok) : Option Int :=
  if t.k = 2 then (if t.b = 0 ∧ t.s = 0 then some t.d else none)
  else if t.k = 3 then (if t.b = 0 ∧ t.d = 0 ∧ 0 ≤ t.s ∧ t.s < 4 then some (row.getD t.s.toNat 0) else none)
  else none
def distOk (n : Nat) (t : Tok) (d : Int) : Bool := decide (t.l ≥ 3) && (decide (t.l ≤ 258) && (decide (d ≥ 1) && decide (d ≤ min 32768 (n : Int))))
/-- What a token makes of a text and a row. -/
def makeTok (out : List Nat) (row : List Int) (t : Tok) : Option (List Nat × List Int) :=
  if t.k = 1 then (if t.l = 0 ∧ t.d = 0 ∧ t.s = 0 then some (out ++ [t.b.toNat], row) else none)
  else match distOf row t with
    | some d => if distOk out.length t d then some (copyN d.toNat t.l.toNat out, frontR row d) else none
    | none => none
/-- The text, or the refusal. -/
def textT (limit : Int) : List Tok → List Nat → List Int → List Nat × Int
  | [], out, _ => (out, 0)
  | t :: ts, out, row =>
    match makeTok out row t with
    | none => ([], 4)
    | some (o, r) => if (o.length : Int) > limit then ([], 62) else textT limit ts o r
def textOf (ts : List Tok) (limit : Int) : List Nat × Int := textT limit ts [] [0, 0, 0, 0]
theorem copyN_length (d : Nat) : ∀ n out, (copyN d n out).length = out.length + n
  | 0, out => rfl
  | n + 1, out => by unfold copyN; rw [copyN_length d n]; simp; omega
theorem copyN_small (d : Nat) : ∀ n out, (∀ x ∈ out, x < 256) → ∀ x ∈ copyN d n out, x < 256
  | 0, out, h => h
  | n + 1, out, h => by
    unfold copyN
    refine copyN_small d n _ fun x hx => ?_
    rcases List.mem_append.1 hx with hx | hx
    · exact h x hx
    · rw [List.mem_singleton.1 hx, List.getD_eq_getElem?_getD]
      cases hg : out[out.length - d]? with
      | none => exact Nat.zero_lt_succ _
      | some y =>
        obtain ⟨hl, hy⟩ := List.getElem?_eq_some_iff.1 hg
        exact h y (hy ▸ List.getElem_mem hl)
theorem makeTok_facts {out o : List Nat} {row r : List Int} {t : Tok} (h : makeTok out row t = some (o, r)) (hrow : row.length = 4) (hw : t.wf) (ho : ∀ x ∈ out, x < 256) :
    o.length ≤ out.length + 258 ∧ r.length = 4 ∧ (∀ x ∈ o, x < 256) ∧ out.length < o.length := by
  unfold makeTok at h
  split at h
  · split at h
    · injection h with h
      injection h with h1 h2
      subst h1; subst h2
      refine ⟨by simp, hrow, fun x hx => ?_, by simp⟩
      rcases List.mem_append.1 hx with hx | hx
      · exact ho x hx
      · rw [List.mem_singleton.1 hx]; have := hw.2; omega
    · cases h
  · split at h
    · split at h
      · rename_i d _ hd
        injection h with h
        injection h with h1 h2
        subst h1; subst h2
        simp only [distOk, Bool.and_eq_true, decide_eq_true_eq] at hd
        rw [copyN_length]
        exact ⟨by omega, frontR_length hrow _, copyN_small _ _ _ ho, by omega⟩
      · cases h
    · cases h
theorem copyN_take {b : List Nat} {d : Nat} : ∀ (n i : Nat), 1 ≤ d → d ≤ i → i + n ≤ b.length → (∀ q, q < n → b[i + q]? = b[i - d + q]?) → copyN d n (b.take i) = b.take (i + n)
  | 0, i, _, _, _, _ => rfl
  | n + 1, i, h1, h2, h3, h4 => by
    unfold copyN
    have hl : (b.take i).length = i := by simp; omega
    have hb : b[i]? = b[i - d]? := by simpa using h4 0 (by omega)
    have e : (b.take i).getD ((b.take i).length - d) 0 = b[i]'(by omega) := by
      rw [hl, List.getD_eq_getElem?_getD, List.getElem?_take, if_pos (by omega), ← hb, List.getElem?_eq_getElem (by omega)]
      rfl
    rw [e, ← List.take_succ_eq_append_getElem (by omega)]
    rw [copyN_take n (i + 1) h1 (by omega) (by omega) fun q hq => by
      have := h4 (q + 1) (by omega)
      rwa [show i + 1 + q = i + (q + 1) by omega, show i + 1 - d + q = i - d + (q + 1) by omega]]
    rw [show i + 1 + n = i + (n + 1) by omega]
theorem distOf_tokAt {row : List Int} (hrow : row.length = 4) (n d : Nat) : distOf row (tokAt row n d) = some (d : Int) := by
  unfold tokAt
  split
  · rename_i s hs
    have hlt := slotOf_lt hs
    have := List.findIdx?_eq_some_iff_getElem.1 hs
    obtain ⟨h1, h2, _⟩ := this
    unfold distOf
    rw [if_neg (by simp), if_pos rfl, if_pos ⟨rfl, rfl, by simp, by simp only; omega⟩]
    simp only [Int.toNat_natCast]
    rw [List.getD_eq_getElem?_getD, List.getElem?_eq_getElem h1]
    simpa using h2
  · unfold distOf
    rw [if_pos rfl, if_pos ⟨rfl, rfl⟩]
theorem tokAt_k (row : List Int) (n d : Nat) : (tokAt row n d).k ≠ 1 := by
  unfold tokAt; split <;> simp
theorem tokAt_l (row : List Int) (n d : Nat) : (tokAt row n d).l = n := by
  unfold tokAt; split <;> rfl
theorem makeTok_match {b : List Nat} {i n d : Nat} {row : List Int} (hrow : row.length = 4) (hn : 3 ≤ n ∧ n ≤ 258) (hd : 1 ≤ d ∧ d ≤ i ∧ d ≤ 32768) (hi : i + n ≤ b.length) (ha : n ≤ alike b i (i - d)) :
    makeTok (b.take i) row (tokAt row n d) = some (b.take (i + n), frontR row (d : Int)) := by
  have hl : (b.take i).length = i := by simp; omega
  unfold makeTok
  rw [if_neg (tokAt_k row n d), distOf_tokAt hrow]
  simp only
  rw [if_pos (by
    unfold distOk
    rw [tokAt_l, hl]
    simp only [Bool.and_eq_true, decide_eq_true_eq]
    omega), tokAt_l, Int.toNat_natCast, Int.toNat_natCast, copyN_take n i hd.1 hd.2.1 hi ((alike_iff b i (i - d) n (by omega)).1 ha)]
theorem textT_find {b : List Nat} {limit : Int} : ∀ (q i : Nat) (row : List Int), row.length = 4 → b.length ≤ i + q → i ≤ b.length →
    textT limit (findT b q i row) (b.take i) row = if (b.length : Int) ≤ limit ∨ i = b.length then (b, 0) else ([], 62)
  | 0, i, row, hrow, h1, h2 => by
    have : i = b.length := by omega
    subst this
    simp [findT, textT]
  | q + 1, i, row, hrow, h1, h2 => by
    unfold findT
    by_cases hi : i < b.length
    · rw [if_pos hi]
      have step : ∀ (t : Tok) (i' : Nat) (row' : List Int), i < i' → i' ≤ b.length → row'.length = 4 → makeTok (b.take i) row t = some (b.take i', row') →
          textT limit (t :: findT b q i' row') (b.take i) row = if (b.length : Int) ≤ limit ∨ i = b.length then (b, 0) else ([], 62) := fun t i' row' g1 g2 g3 g4 => by
        unfold textT
        rw [g4]
        simp only
        have hl : (b.take i').length = i' := by simp; omega
        rw [hl]
        by_cases hlim : (i' : Int) > limit
        · rw [if_pos hlim, if_neg (by omega)]
        · rw [if_neg hlim, textT_find q i' row' g3 (by omega) g2]
          by_cases hb : (b.length : Int) ≤ limit
          · rw [if_pos (.inl hb), if_pos (.inl hb)]
          · rw [if_neg (by omega), if_neg (by omega)]
      split
      · refine step _ (i + 1) row (by omega) (by omega) hrow ?_
        unfold makeTok
        rw [if_pos rfl, if_pos ⟨rfl, rfl, rfl⟩, List.getD_eq_getElem?_getD, List.getElem?_eq_getElem hi, Option.getD_some, Int.toNat_natCast, List.take_succ_eq_append_getElem hi]
      · rename_i hc
        rcases longest_ok b i with h0 | ⟨o1, o2, o3, o4, o5, o6⟩
        · exact absurd (.inl (by rw [h0])) hc
        · exact step _ (i + (longest b i).1) _ (by omega) (by omega) (frontR_length hrow _) (makeTok_match hrow ⟨o1, by omega⟩ ⟨o3, o4, o5⟩ (by omega) o6)
    · rw [if_neg hi, if_pos (.inr (by omega))]
      unfold textT
      rw [List.take_of_length_le (by omega)]
theorem textOf_find (b : List Nat) (limit : Int) : textOf (findToks b) limit = if (b.length : Int) ≤ limit ∨ b = [] then (b, 0) else ([], 62) := by
  have := textT_find (b := b) (limit := limit) b.length 0 [0, 0, 0, 0] rfl (by omega) (by omega)
  rw [List.take_zero] at this
  unfold textOf findToks
  rw [this]
  by_cases hb : b = []
  · subst hb; simp
  · have : ¬ 0 = b.length := fun h => hb (List.eq_nil_of_length_eq_zero h.symm)
    simp [hb, this]
end Go.Rlm
end

section
set_option maxRecDepth 100000
set_option linter.unusedVariables false
namespace Go.Proofs.Ytflhogapjmdkaaa.X
open Go Go.Rlm
/-- A maker at r: what it has made, its row; it owns the blocks F. -/
def MK (L : LHeap) (r : Nat) (out : List Nat) (row : List Int) (F : List Nat) : Prop :=
  ∃ (s : Sl) (G : List Nat), L[r]? = some (.cells (.slice s.a s.n s.c :: row.map iV) 122 false 0) ∧ OS L s (out.map bV) 5 G ∧ r ∉ G ∧ F = r :: G
theorem MK.mono {L L' : LHeap} {r : Nat} {out : List Nat} {row : List Int} {F : List Nat} (h : MK L r out row F) (hk : ∀ i ∈ F, L'[i]? = L[i]?) : MK L' r out row F := by
  obtain ⟨s, G, h1, h2, h3, rfl⟩ := h
  exact ⟨s, G, by rw [hk r (by simp), h1], h2.mono fun i hi => hk i (by simp [hi]), h3, rfl⟩
theorem MK.within {L : LHeap} {r : Nat} {out : List Nat} {row : List Int} {F : List Nat} (h : MK L r out row F) : Within F L := by
  obtain ⟨s, G, h1, h2, h3, rfl⟩ := h
  intro i hi
  rcases List.mem_cons.1 hi with rfl | hi
  · exact get_lt h1
  · exact h2.within i hi
theorem min_int (n : Nat) : (if (n : Int) < 32768 then (n : Int) else 32768) = min 32768 (n : Int) := by
  split <;> omega
/-- The bounds of a match. -/
theorem dist_end {k r r1 : Nat} {d : Int} {t : Tok} {out : List Nat} {row : List Int} {F : List Nat} {L : LHeap} (h : MK L r out row F) (ht : L[r1]? = some (.cells (tokL t) 29 false 0)) :
    f90_c6 k (some ⟨r, 0, none⟩) r1 d L = some (.ret (.tuple #[.int .i64 d, .bool (distOk out.length t d)]) L) := by
  obtain ⟨s, G, h1, h2, h3, rfl⟩ := h
  have hn := h2.len
  rw [List.length_map] at hn
  have c0 : cell L ⟨r, 0, none⟩ = some (.slice s.a s.n s.c) := cellv h1 rfl
  have c2 : cell L ⟨r1, 2, none⟩ = some (.int .i64 t.l) := cellv ht rfl
  rw [f90_c6_eq]
  simp only [mk_add, Nat.zero_add, c0, c2, Option.bind_some, asI_int, obind_some, asSl_slice, hn, Bool.false_eq_true, if_false, min_int]
  unfold distOk
  cases decide (t.l ≥ 3) <;> cases decide (t.l ≤ 258) <;> cases decide (d ≥ 1) <;> rfl
theorem dist_ok {k r : Nat} {t : Tok} {out : List Nat} {row : List Int} {F : List Nat} {L : LHeap} (h : MK L r out row F) (hrow : row.length = 4) (hk : 3 ≤ k) :
    ∃ L' d, f90 k (some ⟨r, 0, none⟩) t.k t.b t.l t.d t.s L = some (.ret (.tuple #[.int .i64 d, .bool (match distOf row t with | some d => distOk out.length t d | none => false)]) L') ∧ Step [] L [] L' ∧ (∀ d', distOf row t = some d' → d = d') := by
  obtain ⟨k, rfl⟩ : ∃ k', k = k' + 1 := ⟨k - 1, by omega⟩
  rw [f90_eq]
  have t1 : (L ++ [LBlk.cells [Value.int .u8 t.k, Value.int .u8 t.b, Value.int .i64 t.l, Value.int .i64 t.d, Value.int .i64 t.s] 29 false 0])[L.length]? = some (.cells (tokL t) 29 false 0) := get_new
  have hm : MK (L ++ [LBlk.cells [Value.int .u8 t.k, Value.int .u8 t.b, Value.int .i64 t.l, Value.int .i64 t.d, Value.int .i64 t.s] 29 false 0]) r out row F := h.mono fun x hx => get_push (h.within x hx)
  have st := Step.push [] L [LBlk.cells [Value.int .u8 t.k, Value.int .u8 t.b, Value.int .i64 t.l, Value.int .i64 t.d, Value.int .i64 t.s] 29 false 0]
  generalize L ++ [LBlk.cells [Value.int .u8 t.k, Value.int .u8 t.b, Value.int .i64 t.l, Value.int .i64 t.d, Value.int .i64 t.s] 29 false 0] = L1 at *
  have c0 : cell L1 ⟨L.length, 0, none⟩ = some (.int .u8 t.k) := cellv t1 rfl
  have c1 : cell L1 ⟨L.length, 1, none⟩ = some (.int .u8 t.b) := cellv t1 rfl
  have c2 : cell L1 ⟨L.length, 2, none⟩ = some (.int .i64 t.l) := cellv t1 rfl
  have c3 : cell L1 ⟨L.length, 3, none⟩ = some (.int .i64 t.d) := cellv t1 rfl
  have c4 : cell L1 ⟨L.length, 4, none⟩ = some (.int .i64 t.s) := cellv t1 rfl
  simp only [mk_add, Nat.zero_add, c0, c1, c2, c3, c4, Option.bind_some, asI_int, obind_some]
  unfold distOf
  by_cases h2 : t.k = 2
  · rw [h2, show ((2 : Int) == 2) = true from rfl, lif_true, if_pos rfl]
    by_cases hb : t.b = 0 ∧ t.s = 0
    · rw [if_pos hb, hb.1, hb.2]
      simp only [beq_self_eq_true, Bool.and_self, lif_true]
      rw [fuel_pos (by omega), dist_end hm t1]
      exact ⟨L1, t.d, rfl, st, fun d' hd => by injection hd⟩
    · rw [if_neg hb]
      have : (true && (t.b == 0 && (t.l == t.l && (t.d == t.d && (t.s == 0 && true))))) = false := by
        simp only [beq_self_eq_true, Bool.true_and, Bool.and_true, Bool.and_eq_false_iff, beq_eq_false_iff_ne]
        by_cases hb0 : t.b = 0
        · exact .inr fun hs => hb ⟨hb0, hs⟩
        · exact .inl hb0
      rw [this, lif_false, show ((2 : Int) == 3) = false from rfl, lif_false]
      exact ⟨L1, 0, rfl, st, fun d' hd => by cases hd⟩
  · rw [show (t.k == 2) = false by simpa using h2, lif_false, if_neg h2]
    by_cases h3 : t.k = 3
    · rw [h3, show ((3 : Int) == 3) = true from rfl, lif_true, if_pos rfl]
      by_cases hb : t.b = 0 ∧ t.d = 0 ∧ 0 ≤ t.s ∧ t.s < 4
      · obtain ⟨b1, b2, b3, b4⟩ := hb
        rw [if_pos ⟨b1, b2, b3, b4⟩, b1, b2]
        simp only [beq_self_eq_true, Bool.and_self, lif_true]
        rw [decide_eq_true (show t.s ≥ 0 from b3), lif_true, decide_eq_true b4, lif_true, when_true, when_true]
        obtain ⟨s, G, g1, g2, g3, hF⟩ := id hm
        obtain ⟨z, hz⟩ : ∃ z : Nat, t.s = z := ⟨t.s.toNat, by omega⟩
        have hzl : z < row.length := by omega
        have cz : cell L1 ⟨r, 1 + z * 1, none⟩ = some (.int .i64 (row.getD z 0)) := cellv g1 (by
          rw [Nat.mul_one, Nat.add_comm, List.getElem?_cons_succ, List.getElem?_map, List.getElem?_eq_getElem hzl, List.getD_eq_getElem?_getD, List.getElem?_eq_getElem hzl]
          rfl)
        rw [hz, Int.toNat_natCast, cz, Option.bind_some, asI_int, obind_some, fuel_pos (by omega), dist_end hm t1]
        exact ⟨L1, row.getD z 0, rfl, st, fun d' hd => by injection hd⟩
      · rw [if_neg hb]
        have fin : ∀ x, ∃ L' d, some (LR.ret (Value.tuple #[Value.int .i64 0, Value.bool false]) L1) = some (LR.ret (Value.tuple #[Value.int .i64 d, Value.bool false]) L') ∧ Step [] L [] L' ∧ (∀ d', (none : Option Int) = some d' → d = d') := fun x : Unit => ⟨L1, 0, rfl, st, fun d' hd => by cases hd⟩
        cases hx : (true && (t.b == 0 && (t.l == t.l && (t.d == 0 && (t.s == t.s && true)))))
        · rw [lif_false]; exact fin ()
        · rw [lif_true]
          simp only [beq_self_eq_true, Bool.true_and, Bool.and_true, Bool.and_eq_true, beq_iff_eq] at hx
          by_cases hs : t.s ≥ 0
          · rw [decide_eq_true hs, lif_true, decide_eq_false (fun q => hb ⟨hx.1, hx.2, hs, q⟩), lif_false]
            exact fin ()
          · rw [decide_eq_false hs, lif_false]
            exact fin ()
    · rw [show (t.k == 3) = false by simpa using h3, lif_false, if_neg h3]
      exact ⟨L1, 0, rfl, st, fun d' hd => by cases hd⟩
/-- Bytes az they stand ahead. -/
theorem copy_loop {k r : Nat} {d n : Nat} {row : List Int} (hd : 1 ≤ d) (hn : n ≤ 258) : ∀ (m i j : Nat) (out : List Nat) (F : List Nat) (L : LHeap), i + m = n → m < j → MK L r out row F → d ≤ out.length → out.length + m < 2 ^ 40 →
    ∃ L' F', f74_l9 k j (some ⟨r, 0, none⟩) (d : Int) (n : Int) (i : Int) L = some (.ret (.bool true) L') ∧ MK L' r (copyN d m out) row F' ∧ Step F L F' L' := by
  intro m
  induction m with
  | zero =>
    intro i j out F L hi hj hm _ _
    obtain ⟨j, rfl⟩ : ∃ j', j = j' + 1 := ⟨j - 1, by omega⟩
    exact ⟨L, F, by rw [f74_l9_eq, decide_eq_false (by omega), lif_false], hm, .refl _ _⟩
  | succ m ih =>
    intro i j out F L hi hj hm hdo hlo
    obtain ⟨j, rfl⟩ : ∃ j', j = j' + 1 := ⟨j - 1, by omega⟩
    obtain ⟨s, G, h1, h2, h3, rfl⟩ := hm
    have hsn := h2.len
    rw [List.length_map] at hsn
    have c0 : cell L ⟨r, 0, none⟩ = some (.slice s.a s.n s.c) := cellv h1 rfl
    rw [f74_l9_eq, decide_eq_true (by omega), lif_true]
    have hix : out.length - d < out.length := by omega
    obtain ⟨a, a1, a2⟩ := h2.get (i := out.length - d) (v := bV (out.getD (out.length - d) 0)) (by rw [List.getElem?_map, List.getElem?_eq_getElem hix, List.getD_eq_getElem?_getD, List.getElem?_eq_getElem hix]; rfl)
    have hsl : (⟨s.a, out.length, s.c⟩ : Sl) = s := by cases s; simp only at hsn; rw [hsn]
    have a1 : idx ⟨s.a, out.length, s.c⟩ ((out.length - d : Nat) : Int) 1 = some a := by rw [hsl]; exact a1
    simp only [size5, bytes5, obind_some, mk_add, Nat.zero_add, c0, Option.bind_some, asSl_slice, hsn]
    rw [wI64 (by omega) (by omega), show (out.length : Int) - (d : Int) = ((out.length - d : Nat) : Int) by omega, a1, obind_some, a2, bV, Option.bind_some, asI_int, obind_some]
    have n1 : (L ++ [LBlk.cells [Value.int .u8 (out.getD (out.length - d) 0 : Nat)] 5 false 0])[r]? = some (.cells (.slice s.a s.n s.c :: row.map iV) 122 false 0) := by rw [get_push (get_lt h1), h1]
    have c1 : cell (L ++ [LBlk.cells [Value.int .u8 (out.getD (out.length - d) 0 : Nat)] 5 false 0]) ⟨r, 0, none⟩ = some (.slice s.a s.n s.c) := cellv n1 rfl
    rw [c1, Option.bind_some, asSl_slice, obind_some, hsn, same_self, when_true, src_new, obind_some]
    obtain ⟨s', L1, G', e1, e2, e3⟩ := (h2.mono (L' := L ++ [LBlk.cells [Value.int .u8 (out.getD (out.length - d) 0 : Nat)] 5 false 0]) fun x hx => get_push (h2.within x hx)).app [bV (out.getD (out.length - d) 0)] 1 (by simp; omega) (by simp; omega)
    have e1 : Rlm.app (L ++ [LBlk.cells [Value.int .u8 (out.getD (out.length - d) 0 : Nat)] 5 false 0]) 5 1 1 ⟨s.a, out.length, s.c⟩ 1 [Value.int .u8 (out.getD (out.length - d) 0 : Nat)] = some (s', L1) := by rw [hsl]; exact e1
    rw [e1, obind_some]
    have hr1 : L1[r]? = some (.cells (.slice s.a s.n s.c :: row.map iV) 122 false 0) := by rw [e3.keep r (by have := get_lt h1; simp; omega) h3, n1]
    have hrG : r ∉ G' := fun q => by
      rcases e3.foot r q with w | w
      · exact h3 w
      · have := get_lt h1; simp at w; omega
    rw [stores_of hr1 (by simp), obind_some]
    have hset : setAll (.slice s.a s.n s.c :: row.map iV) 0 [Value.slice s'.a s'.n s'.c] = .slice s'.a s'.n s'.c :: row.map iV := by simp [setAll]
    rw [hset]
    have hr2 : (L1.set r (.cells (.slice s'.a s'.n s'.c :: row.map iV) 122 false 0))[r]? = some (.cells (.slice s'.a s'.n s'.c :: row.map iV) 122 false 0) := get_set_self hr1
    obtain ⟨L2, F2, g1, g2, g3⟩ := ih (i + 1) j (out ++ [out.getD (out.length - d) 0]) (r :: G') (L1.set r (.cells (.slice s'.a s'.n s'.c :: row.map iV) 122 false 0)) (by omega) (by omega)
      ⟨s', G', hr2, by rw [List.map_append]; exact e2.mono fun x hx => get_set_ne fun q => hrG (q ▸ hx), hrG, rfl⟩ (by simp; omega) (by simp; omega)
    rw [wI64 (by omega) (by omega), show (i : Int) + 1 = ((i + 1 : Nat) : Int) by omega, g1]
    refine ⟨L2, F2, rfl, g2, Step.trans ⟨?_, fun x hx hn => ?_, fun x hx => ?_⟩ g3⟩
    · have := e3.len; simp at this ⊢; omega
    · simp only [List.mem_cons, not_or] at hn
      rw [get_set_ne (Ne.symm hn.1), e3.keep x (by simp; omega) hn.2, get_push hx]
    · rcases List.mem_cons.1 hx with rfl | hx
      · exact .inl (by simp)
      · rcases e3.foot x hx with w | w
        · exact .inl (by simp [w])
        · simp at w; exact .inr (by omega)
end Go.Proofs.Ytflhogapjmdkaaa.X
end

section
set_option maxRecDepth 100000
set_option linter.unusedVariables false
namespace Go.Proofs.Ytflhogapjmdkaaa.X
open Go Go.Rlm
theorem add_ok {k r : Nat} {t : Tok} {out : List Nat} {row : List Int} {F : List Nat} {L : LHeap} (h : MK L r out row F) (hrow : row.length = 4) (hw : t.wf) (hl : out.length < 2 ^ 39) (hk : 400 ≤ k) :
    match makeTok out row t with
    | some (o, w) => ∃ L' F', f74 k (some ⟨r, 0, none⟩) t.k t.b t.l t.d t.s L = some (.ret (.bool true) L') ∧ MK L' r o w F' ∧ Step F L F' L'
    | none => ∃ L' F', f74 k (some ⟨r, 0, none⟩) t.k t.b t.l t.d t.s L = some (.ret (.bool false) L') ∧ Step F L F' L' := by
  obtain ⟨k, rfl⟩ : ∃ k', k = k' + 1 := ⟨k - 1, by omega⟩
  have key : ∃ L' F' b, f74 (k + 1) (some ⟨r, 0, none⟩) t.k t.b t.l t.d t.s L = some (.ret (.bool b) L') ∧ Step F L F' L' ∧ (match makeTok out row t with | some (o, w) => b = true ∧ MK L' r o w F' | none => b = false) := ?_
  · obtain ⟨L', F', b, e1, e2, e3⟩ := key
    split at e3
    · obtain ⟨rfl, e3⟩ := e3
      exact ⟨L', F', e1, e3, e2⟩
    · subst e3
      exact ⟨L', F', e1, e2⟩
  rw [f74_eq]
  have hF := h.within
  have hrF : r ∈ F := by obtain ⟨s, G, _, _, _, rfl⟩ := h; simp
  have t1 : (L ++ [LBlk.cells [Value.int .u8 t.k, Value.int .u8 t.b, Value.int .i64 t.l, Value.int .i64 t.d, Value.int .i64 t.s] 29 false 0])[L.length]? = some (.cells (tokL t) 29 false 0) := get_new
  have hm : MK (L ++ [LBlk.cells [Value.int .u8 t.k, Value.int .u8 t.b, Value.int .i64 t.l, Value.int .i64 t.d, Value.int .i64 t.s] 29 false 0]) r out row F := h.mono fun x hx => get_push (hF x hx)
  have st := Step.push F L [LBlk.cells [Value.int .u8 t.k, Value.int .u8 t.b, Value.int .i64 t.l, Value.int .i64 t.d, Value.int .i64 t.s] 29 false 0]
  have tl : (L ++ [LBlk.cells [Value.int .u8 t.k, Value.int .u8 t.b, Value.int .i64 t.l, Value.int .i64 t.d, Value.int .i64 t.s] 29 false 0]).length = L.length + 1 := by simp
  generalize L ++ [LBlk.cells [Value.int .u8 t.k, Value.int .u8 t.b, Value.int .i64 t.l, Value.int .i64 t.d, Value.int .i64 t.s] 29 false 0] = L1 at *
  have c0 : cell L1 ⟨L.length, 0, none⟩ = some (.int .u8 t.k) := cellv t1 rfl
  have c1 : cell L1 ⟨L.length, 1, none⟩ = some (.int .u8 t.b) := cellv t1 rfl
  have c2 : cell L1 ⟨L.length, 2, none⟩ = some (.int .i64 t.l) := cellv t1 rfl
  have c3 : cell L1 ⟨L.length, 3, none⟩ = some (.int .i64 t.d) := cellv t1 rfl
  have c4 : cell L1 ⟨L.length, 4, none⟩ = some (.int .i64 t.s) := cellv t1 rfl
  obtain ⟨s, G, g1, g2, g3, rfl⟩ := id hm
  have hsn := g2.len
  rw [List.length_map] at hsn
  have cr : cell L1 ⟨r, 0, none⟩ = some (.slice s.a s.n s.c) := cellv g1 rfl
  have hne : L.length ≠ r := by have := hF r (by simp); omega
  have hnG : L.length ∉ G := fun q => by have := hF L.length (by simp [q]); omega
  simp only [size5, bytes5, mk_add, Nat.zero_add, c0, c1, c2, c3, c4, cr, Option.bind_some, asI_int, asSl_slice, obind_some]
  by_cases h1 : t.k = 1
  · rw [h1, show ((1 : Int) == 1) = true from rfl, lif_true]
    have n1 : (L1 ++ [LBlk.cells [Value.int .u8 t.b] 5 false 0])[r]? = some (.cells (.slice s.a s.n s.c :: row.map iV) 122 false 0) := by rw [get_push (get_lt g1), g1]
    have d1 : cell (L1 ++ [LBlk.cells [Value.int .u8 t.b] 5 false 0]) ⟨r, 0, none⟩ = some (.slice s.a s.n s.c) := cellv n1 rfl
    rw [d1, Option.bind_some, asSl_slice, obind_some, same_self, when_true, src_new, obind_some]
    obtain ⟨y, hy⟩ : ∃ y : Nat, t.b = y := ⟨t.b.toNat, by have := hw.2; omega⟩
    obtain ⟨s', L2, G', e1, e2, e3⟩ := (g2.mono (L' := L1 ++ [LBlk.cells [Value.int .u8 t.b] 5 false 0]) fun x hx => get_push (g2.within x hx)).app [.int .u8 t.b] 1 (by simp; omega) (by simp; omega)
    have e1 : Rlm.app (L1 ++ [LBlk.cells [Value.int .u8 t.b] 5 false 0]) 5 1 1 s 1 [Value.int .u8 t.b] = some (s', L2) := e1
    rw [e1, obind_some]
    have hr2 : L2[r]? = some (.cells (.slice s.a s.n s.c :: row.map iV) 122 false 0) := by rw [e3.keep r (by have := get_lt g1; simp; omega) g3, n1]
    have hrG : r ∉ G' := fun q => by
      rcases e3.foot r q with w | w
      · exact g3 w
      · have := get_lt g1; simp at w; omega
    have ht2 : L2[L.length]? = some (.cells (tokL t) 29 false 0) := by rw [e3.keep _ (by simp; omega) hnG, get_push (by omega), t1]
    rw [stores_of hr2 (by simp), obind_some]
    have hset : setAll (.slice s.a s.n s.c :: row.map iV) 0 [Value.slice s'.a s'.n s'.c] = .slice s'.a s'.n s'.c :: row.map iV := by simp [setAll]
    rw [hset]
    have ht3 : (L2.set r (.cells (.slice s'.a s'.n s'.c :: row.map iV) 122 false 0))[L.length]? = some (.cells (tokL t) 29 false 0) := by rw [get_set_ne hne.symm, ht2]
    have hr3 : (L2.set r (.cells (.slice s'.a s'.n s'.c :: row.map iV) 122 false 0))[r]? = some (.cells (.slice s'.a s'.n s'.c :: row.map iV) 122 false 0) := get_set_self hr2
    have stE : Step (r :: G) L (r :: G') (L2.set r (.cells (.slice s'.a s'.n s'.c :: row.map iV) 122 false 0)) := by
      refine ⟨by have := e3.len; simp at this ⊢; omega, fun x hx hn => ?_, fun x hx => ?_⟩
      · simp only [List.mem_cons, not_or] at hn
        rw [get_set_ne (Ne.symm hn.1), e3.keep x (by simp; omega) hn.2, get_push (by omega), st.keep x hx (by simp [hn])]
      · rcases List.mem_cons.1 hx with rfl | hx
        · exact .inl (by simp)
        · rcases e3.foot x hx with w | w
          · exact .inl (by simp [w])
          · simp at w; exact .inr (by omega)
    have hm3 : MK (L2.set r (.cells (.slice s'.a s'.n s'.c :: row.map iV) 122 false 0)) r (out ++ [t.b.toNat]) row (r :: G') := ⟨s', G', hr3, by
      rw [List.map_append]
      have : ([t.b.toNat].map bV : List Value) = [.int .u8 t.b] := by rw [hy]; rfl
      rw [this]
      exact e2.mono fun x hx => get_set_ne fun q => hrG (q ▸ hx), hrG, rfl⟩
    generalize L2.set r (.cells (.slice s'.a s'.n s'.c :: row.map iV) 122 false 0) = L3 at *
    have k0 : cell L3 ⟨L.length, 0, none⟩ = some (.int .u8 t.k) := cellv ht3 rfl
    have k1 : cell L3 ⟨L.length, 1, none⟩ = some (.int .u8 t.b) := cellv ht3 rfl
    have k2 : cell L3 ⟨L.length, 2, none⟩ = some (.int .i64 t.l) := cellv ht3 rfl
    have k3 : cell L3 ⟨L.length, 3, none⟩ = some (.int .i64 t.d) := cellv ht3 rfl
    have k4 : cell L3 ⟨L.length, 4, none⟩ = some (.int .i64 t.s) := cellv ht3 rfl
    simp only [k0, k1, k2, k3, k4, Option.bind_some, asI_int, obind_some]
    refine ⟨L3, r :: G', _, rfl, stE, ?_⟩
    unfold makeTok
    rw [if_pos h1]
    by_cases hz : t.l = 0 ∧ t.d = 0 ∧ t.s = 0
    · rw [if_pos hz, h1, hz.1, hz.2.1, hz.2.2]
      exact ⟨by simp, hm3⟩
    · rw [if_neg hz]
      simp only [beq_self_eq_true, Bool.true_and, Bool.and_true, Bool.and_eq_false_iff, beq_eq_false_iff_ne]
      by_cases z1 : t.l = 0
      · by_cases z2 : t.d = 0
        · exact .inr (.inr (.inr fun z3 => hz ⟨z1, z2, z3⟩))
        · exact .inr (.inr (.inl z2))
      · exact .inr (.inl z1)
  · rw [show (t.k == 1) = false by simpa using h1, lif_false]
    obtain ⟨L2, d, e1, e2, e3⟩ := dist_ok (k := k) hm hrow (by omega)
    rw [e1, lbind_ret, tupL_tuple, obind_some, uncons_cons, asI_int, obind_some, uncons_cons, asB_bool, obind_some, nilL_nil]
    have hm2 : MK L2 r out row (r :: G) := hm.mono fun x hx => e2.keep x (hm.within x hx) (by simp)
    have st2 : Step (r :: G) L (r :: G) L2 := st.trans ((e2.mono (G := r :: G) (by simp)).less fun i hi => .inr hi)
    unfold makeTok
    rw [if_neg h1]
    cases hd : distOf row t with
    | none =>
      rw [hd] at e1
      simp only [Bool.not_false, lif_true]
      exact ⟨L2, _, false, rfl, st2, rfl⟩
    | some d' =>
      have hdd := e3 d' hd
      subst hdd
      simp only
      cases hok : distOk out.length t d with
      | false =>
        simp only [Bool.not_false, lif_true, Bool.false_eq_true, if_false]
        exact ⟨L2, _, false, rfl, st2, rfl⟩
      | true =>
        simp only [Bool.not_true, lif_false, if_true]
        obtain ⟨s2, G2, f1, f2, f3, hFe⟩ := id hm2
        injection hFe with _ hFe
        subst hFe
        simp only [distOk, Bool.and_eq_true, decide_eq_true_eq] at hok
        obtain ⟨o1, o2, o3, o4⟩ := hok
        match row, hrow with
        | [a, b, c, e], _ =>
          have x0 : cell L2 ⟨r, 1, none⟩ = some (.int .i64 a) := cellv f1 rfl
          have x1 : cell L2 ⟨r, 2, none⟩ = some (.int .i64 b) := cellv f1 rfl
          have x2 : cell L2 ⟨r, 3, none⟩ = some (.int .i64 c) := cellv f1 rfl
          have x3 : cell L2 ⟨r, 4, none⟩ = some (.int .i64 e) := cellv f1 rfl
          simp only [x0, x1, x2, x3, Option.bind_some, asI_int, obind_some]
          obtain ⟨L3, y1, y2⟩ := front_ok (k := k) (a := a) (b := b) (c := c) (e := e) (d := d) (L := L2) (by omega)
          rw [y1, lbind_ret]
          have hfl := frontR_length (row := [a, b, c, e]) rfl d
          have hm3 : MK L3 r out [a, b, c, e] (r :: G) := hm2.mono fun x hx => y2.keep x (hm2.within x hx) (by simp)
          have ht3 : L3[L.length]? = some (.cells (tokL t) 29 false 0) := by rw [y2.keep _ (by have := e2.len; omega) (by simp), e2.keep _ (by omega) (by simp), t1]
          have st3 : Step (r :: G) L (r :: G) L3 := st2.trans ((y2.mono (G := r :: G) (by simp)).less fun i hi => .inr hi)
          match hf : frontR [a, b, c, e] d, hfl with
          | [a', b', c', e'], _ =>
            obtain ⟨s3, G3, p1, p2, p3, hFe⟩ := hm3
            injection hFe with _ hFe
            subst hFe
            simp only [List.map_cons, List.map_nil, iV, show (List.length ((fun l => List.flatten (List.replicate 4 l)) [Leaf.i IntKind.i64])) = 4 from rfl]
            rw [show aggL 4 (Value.agg [Value.int .i64 a', .int .i64 b', .int .i64 c', .int .i64 e'].toArray) = some [Value.int .i64 a', .int .i64 b', .int .i64 c', .int .i64 e'] from rfl, obind_some, uncons_cons, asI_int, obind_some, uncons_cons, asI_int, obind_some, uncons_cons, asI_int, obind_some, uncons_cons, asI_int, obind_some,
              stores_of p1 (by simp), obind_some]
            have hset : setAll (.slice s3.a s3.n s3.c :: [a, b, c, e].map iV) 1 [Value.int .i64 a', .int .i64 b', .int .i64 c', .int .i64 e'] = .slice s3.a s3.n s3.c :: [a', b', c', e'].map iV := by simp [setAll, iV]
            rw [hset]
            have q1 : (L3.set r (.cells (.slice s3.a s3.n s3.c :: [a', b', c', e'].map iV) 122 false 0))[L.length]? = some (.cells (tokL t) 29 false 0) := by rw [get_set_ne hne.symm, ht3]
            have cl : cell (L3.set r (.cells (.slice s3.a s3.n s3.c :: [a', b', c', e'].map iV) 122 false 0)) ⟨L.length, 2, none⟩ = some (.int .i64 t.l) := cellv q1 rfl
            rw [cl, Option.bind_some, asI_int, obind_some]
            obtain ⟨dn, hdn⟩ : ∃ dn : Nat, d = dn := ⟨d.toNat, by omega⟩
            obtain ⟨ln, hln⟩ : ∃ ln : Nat, t.l = ln := ⟨t.l.toNat, by omega⟩
            have hm4 : MK (L3.set r (.cells (.slice s3.a s3.n s3.c :: [a', b', c', e'].map iV) 122 false 0)) r out [a', b', c', e'] (r :: G) := ⟨s3, G, get_set_self p1, p2.mono fun x hx => get_set_ne fun q => p3 (q ▸ hx), p3, rfl⟩
            obtain ⟨L4, F4, w1, w2, w3⟩ := copy_loop (k := k) (d := dn) (n := ln) (row := [a', b', c', e']) (by omega) (by omega) ln 0 k out (r :: G) _ (by omega) (by omega) hm4 (by omega) (by omega)
            rw [hdn, hln, show (0 : Int) = ((0 : Nat) : Int) from rfl, w1]
            refine ⟨L4, F4, true, rfl, (st3.trans (Step.set _ (by simp))).trans w3, rfl, ?_⟩
            rw [Int.toNat_natCast, Int.toNat_natCast]
            exact w2
theorem text_loop {k r : Nat} {l : Sl} {ts : List Tok} {A : List Nat} {limit : Int} (hw : ∀ t ∈ ts, t.wf) (hs : ts.length ≤ 2 ^ 26) (hk : 410 ≤ k) :
    ∀ (m i j : Nat) (out : List Nat) (row : List Int) (F : List Nat) (L : LHeap), i + m = ts.length → m < j → row.length = 4 → (∀ x ∈ out, x < 256) → out.length ≤ 258 * i → RT L l ts A → MK L r out row F → Apart F A →
    ∃ L', f44_l3 k j limit r l (ts.length : Int) (i : Int) L = some (.ret (.tuple #[.string (strOf (textT limit (ts.drop i) out row).1), .int .i64 (textT limit (ts.drop i) out row).2]) L') ∧ ∃ F', Step F L F' L' := by
  intro m
  induction m with
  | zero =>
    intro i j out row F L hi hj hrow ho hol hl hm hA
    obtain ⟨j, rfl⟩ : ∃ j', j = j' + 1 := ⟨j - 1, by omega⟩
    obtain ⟨s, G, g1, g2, g3, rfl⟩ := hm
    have c0 : cell L ⟨r, 0, none⟩ = some (.slice s.a s.n s.c) := cellv g1 rfl
    rw [f44_l3_eq, decide_eq_false (by omega), lif_false]
    simp only [mk_add, Nat.zero_add, c0, Option.bind_some, asSl_slice, obind_some]
    have hb : bytesOf L ⟨s.a, s.n, s.c⟩ = some (strOf out) := g2.bytes ho
    rw [hb, obind_some, List.drop_of_length_le (by omega)]
    exact ⟨L, rfl, _, .refl _ _⟩
  | succ m ih =>
    intro i j out row F L hi hj hrow ho hol hl hm hA
    obtain ⟨j, rfl⟩ : ∃ j', j = j' + 1 := ⟨j - 1, by omega⟩
    have hil : i < ts.length := by omega
    have hFw := hm.within
    obtain ⟨a, a1, a2⟩ := hl.here (List.getElem?_eq_getElem hil)
    obtain ⟨x0, x1, x2, x3, x4⟩ := a2 L (fun _ _ => rfl)
    rw [f44_l3_eq, decide_eq_true (by omega), lif_true, a1, obind_some, x0, x1, x2, x3, x4]
    simp only [Option.bind_some, asI_int, obind_some]
    generalize ht : ts[i] = t at *
    have n1 : (L ++ [LBlk.cells [Value.int .u8 0, Value.int .u8 0, Value.int .i64 0, Value.int .i64 0, Value.int .i64 0] 29 false 0])[L.length]? = some (.cells [Value.int .u8 0, Value.int .u8 0, Value.int .i64 0, Value.int .i64 0, Value.int .i64 0] 29 false 0) := get_new
    rw [stores_all (news := [Value.int .u8 t.k, Value.int .u8 t.b, Value.int .i64 t.l, Value.int .i64 t.d, Value.int .i64 t.s]) n1 rfl, obind_some]
    have n2 : ((L ++ [LBlk.cells [Value.int .u8 0, Value.int .u8 0, Value.int .i64 0, Value.int .i64 0, Value.int .i64 0] 29 false 0]).set L.length (.cells [Value.int .u8 t.k, Value.int .u8 t.b, Value.int .i64 t.l, Value.int .i64 t.d, Value.int .i64 t.s] 29 false 0))[L.length]? = some (.cells (tokL t) 29 false 0) := get_set_self n1
    have n3 : ∀ x, x < L.length → ((L ++ [LBlk.cells [Value.int .u8 0, Value.int .u8 0, Value.int .i64 0, Value.int .i64 0, Value.int .i64 0] 29 false 0]).set L.length (.cells [Value.int .u8 t.k, Value.int .u8 t.b, Value.int .i64 t.l, Value.int .i64 t.d, Value.int .i64 t.s] 29 false 0))[x]? = L[x]? := fun x hx => by rw [get_set_ne (by omega), get_push hx]
    have n4 : ((L ++ [LBlk.cells [Value.int .u8 0, Value.int .u8 0, Value.int .i64 0, Value.int .i64 0, Value.int .i64 0] 29 false 0]).set L.length (.cells [Value.int .u8 t.k, Value.int .u8 t.b, Value.int .i64 t.l, Value.int .i64 t.d, Value.int .i64 t.s] 29 false 0)).length = L.length + 1 := by simp
    generalize (L ++ [LBlk.cells [Value.int .u8 0, Value.int .u8 0, Value.int .i64 0, Value.int .i64 0, Value.int .i64 0] 29 false 0]).set L.length (.cells [Value.int .u8 t.k, Value.int .u8 t.b, Value.int .i64 t.l, Value.int .i64 t.d, Value.int .i64 t.s] 29 false 0) = L1 at *
    have y0 : cell L1 ⟨L.length, 0, none⟩ = some (.int .u8 t.k) := cellv n2 rfl
    have y1 : cell L1 ⟨L.length, 1, none⟩ = some (.int .u8 t.b) := cellv n2 rfl
    have y2 : cell L1 ⟨L.length, 2, none⟩ = some (.int .i64 t.l) := cellv n2 rfl
    have y3 : cell L1 ⟨L.length, 3, none⟩ = some (.int .i64 t.d) := cellv n2 rfl
    have y4 : cell L1 ⟨L.length, 4, none⟩ = some (.int .i64 t.s) := cellv n2 rfl
    simp only [mk_add, Nat.zero_add, y0, y1, y2, y3, y4, Option.bind_some, asI_int, obind_some]
    have hm1 : MK L1 r out row F := hm.mono fun x hx => n3 x (hFw x hx)
    have hl1 : RT L1 l ts A := hl.mono fun x hx => n3 x (hl.within x hx)
    have htw : t.wf := hw t (ht ▸ List.getElem_mem hil)
    have st1 : Step F L F L1 := ⟨by omega, fun x hx _ => n3 x hx, fun x hx => .inl hx⟩
    have hadd := add_ok (k := k) hm1 hrow htw (by omega) (by omega)
    rw [List.drop_eq_getElem_cons hil, ht]
    unfold textT
    cases hmk : makeTok out row t with
    | none =>
      rw [hmk] at hadd
      obtain ⟨L2, F2, e1, e2⟩ := hadd
      rw [e1, lbind_ret, asB_bool, obind_some, Bool.not_false, lif_true]
      exact ⟨L2, rfl, F2, st1.trans e2⟩
    | some ow =>
      obtain ⟨o, w⟩ := ow
      rw [hmk] at hadd
      obtain ⟨L2, F2, e1, e2, e3⟩ := hadd
      obtain ⟨f1, f2, f3, f4⟩ := makeTok_facts hmk hrow htw ho
      rw [e1, lbind_ret, asB_bool, obind_some, Bool.not_true, lif_false]
      obtain ⟨s, G, g1, g2, g3, hFe⟩ := id e2
      have hsn := g2.len
      rw [List.length_map] at hsn
      have c0 : cell L2 ⟨r, 0, none⟩ = some (.slice s.a s.n s.c) := cellv g1 rfl
      rw [c0, Option.bind_some, asSl_slice, obind_some, hsn]
      simp only
      by_cases hlim : (o.length : Int) > limit
      · rw [decide_eq_true hlim, lif_true, if_pos hlim]
        exact ⟨L2, rfl, F2, st1.trans e3⟩
      · rw [decide_eq_false hlim, lif_false, if_neg hlim, wI64 (by omega) (by omega), show (i : Int) + 1 = ((i + 1 : Nat) : Int) by omega]
        have hap : Apart F2 A := e3.apart hl1.within hA
        obtain ⟨L3, p1, F3, p2⟩ := ih (i + 1) j o w F2 L2 (by omega) (by omega) f2 f3 (by omega) (hl1.mono (e3.others hl1.within hA)) e2 hap
        exact ⟨L3, p1, F3, (st1.trans e3).trans p2⟩
theorem text_ok {k : Nat} {l : Sl} {ts : List Tok} {A : List Nat} {limit : Int} {L : LHeap} (hl : RT L l ts A) (hw : ∀ t ∈ ts, t.wf) (hs : ts.length ≤ 2 ^ 26) (hk : ts.length + 420 ≤ k) :
    ∃ L', f44 k l limit L = some (.ret (.tuple #[.string (strOf (textOf ts limit).1), .int .i64 (textOf ts limit).2]) L') ∧ Step [] L [] L' := by
  obtain ⟨k, rfl⟩ : ∃ k', k = k' + 1 := ⟨k - 1, by omega⟩
  have hn := hl.len
  rw [f44_eq, hn]
  have n1 : (L ++ [LBlk.cells [Value.slice none 0 0, Value.int .i64 0, Value.int .i64 0, Value.int .i64 0, Value.int .i64 0] 122 false 0])[L.length]? = some (.cells (.slice none 0 0 :: ([0, 0, 0, 0] : List Int).map iV) 122 false 0) := get_new
  have n2 := Step.push [] L [LBlk.cells [Value.slice none 0 0, Value.int .i64 0, Value.int .i64 0, Value.int .i64 0, Value.int .i64 0] 122 false 0]
  have n3 : RT (L ++ [LBlk.cells [Value.slice none 0 0, Value.int .i64 0, Value.int .i64 0, Value.int .i64 0, Value.int .i64 0] 122 false 0]) l ts A := hl.mono fun x hx => get_push (hl.within x hx)
  have hlt := get_lt n1
  generalize L ++ [LBlk.cells [Value.slice none 0 0, Value.int .i64 0, Value.int .i64 0, Value.int .i64 0, Value.int .i64 0] 122 false 0] = L1 at *
  have hw0 := hl.within
  obtain ⟨L', e1, F', e2⟩ := text_loop (k := k) (r := L.length) (limit := limit) hw hs (by omega) ts.length 0 k [] [0, 0, 0, 0] [L.length] L1 (by omega) (by omega) rfl (by simp) (by simp) n3 ⟨⟨none, 0, 0⟩, [], n1, OS.nil _ _, by simp, rfl⟩ (fun x hx hq => by
    rw [List.mem_singleton.1 hx] at hq
    have := hw0 _ hq; omega)
  refine ⟨L', e1, ⟨by have := n2.len; have := e2.len; omega, fun x hx _ => ?_, fun x hx => by cases hx⟩⟩
  rw [e2.keep x (by omega) (by simp; omega), n2.keep x hx (by simp)]
/-- What is said by tokens. -/
theorem expand_toks {k : Nat} {b : List Nat} {ts : List Tok} {limit : Int} {L : LHeap} (hb : ∀ x ∈ b, x < 256) (hn : unpackB b = some ts) (hs : b.length < 2 ^ 22) (hk : 8 * b.length + 1000 ≤ k) :
    ∃ L', f24 k (strOf (1 :: b)) limit L = some (.ret (.tuple #[.string (strOf (textOf ts limit).1), .int .i64 (textOf ts limit).2]) L') ∧ Step [] L [] L' := by
  obtain ⟨k, rfl⟩ : ∃ k', k = k' + 1 := ⟨k - 1, by omega⟩
  have h0 : ∀ x ∈ 1 :: b, x < 256 := fun x hx => by
    rcases List.mem_cons.1 hx with rfl | hx
    · omega
    · exact hb x hx
  have hsz : (strOf (1 :: b)).size = b.length + 1 := by rw [strOf_size]; rfl
  have e1 : (strOf (1 :: b)).extract 0 1 = strOf [1] := by rw [strOf_extract h0]; rfl
  have e2 : (strOf (1 :: b)).extract 1 (strOf (1 :: b)).size = strOf b := by rw [strOf_extract h0, hsz]; simp
  have hne : strOf [1] ≠ strOf [0] := fun h => by have := (strOf_inj (by simp) (by simp)).1 h; simp at this
  obtain ⟨w1, w2⟩ := unpack_wf hn
  have hu := unpack_ok (k := k) (s := strOf b) (L := L) (by rw [strOf_size]; omega) (by rw [strOf_size]; omega)
  rw [bytesL_strOf hb, hn] at hu
  obtain ⟨l', L1, F', u1, u2, u3⟩ := hu
  obtain ⟨L2, v1, v2⟩ := text_ok (k := k) (limit := limit) (OZ.rt u2) (fun t ht => (w1 t ht).2) (by omega) (by omega)
  refine ⟨L2, ?_, (u3.less (G := []) fun i hi => by cases hi).trans v2⟩
  have v1 : f44 k ⟨l'.a, l'.n, l'.c⟩ limit L1 = _ := v1
  rw [f24_eq, toList_beq, decide_eq_false (by intro h; have := congrArg ByteArray.size h; rw [hsz] at this; have : b.length + 1 = 0 := this; omega), lif_false, subS_head (by omega), obind_some, subS_tail (by omega), obind_some, e1, e2, toList_beq, toList_beq,
    show ByteArray.mk #[0] = strOf [0] from rfl, show ByteArray.mk #[1] = strOf [1] from rfl, decide_eq_false hne, decide_eq_true rfl, lif_false, lif_false, Bool.not_true, lif_false, u1, lbind_ret, tupL_tuple, obind_some, uncons_cons, asSl_slice, obind_some, uncons_cons, asI_int, obind_some, nilL_nil,
    show ((0 : Int) != 0) = false from rfl, lif_false, v1, lbind_ret, tupL_tuple, obind_some, uncons_cons, asS_string, obind_some, uncons_cons, asI_int, obind_some, nilL_nil]
end Go.Proofs.Ytflhogapjmdkaaa.X
end

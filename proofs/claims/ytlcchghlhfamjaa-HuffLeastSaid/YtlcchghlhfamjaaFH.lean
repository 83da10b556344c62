/- Printed by RPrint.lean, a program of this session's: for Go functions of the program, functions over the logical heap, each with the equation that unfolds it. -/
import Derived.Test.YtlcchghlhfamjaaFB
set_option maxRecDepth 100000
set_option linter.unusedVariables false
namespace Go.Proofs.Ytlcchghlhfamjaa.X
open Go Go.Rlm

/-- hamper/hamperlaw12.HuffLengths -/
noncomputable def f9 (k : Nat) (l0 : Sl) (L : LHeap) : R :=
  lcall Proofs.Try.prog Proofs.Ytlcchghlhfamjaa.X.T k 9 [Value.slice l0.a l0.n l0.c] L
/-- hamper/hamperlaw12.HuffLeast -/
noncomputable def f10 (k : Nat) (l0 : Sl) (l1 : Sl) (L : LHeap) : R :=
  lcall Proofs.Try.prog Proofs.Ytlcchghlhfamjaa.X.T k 10 [Value.slice l0.a l0.n l0.c, Value.slice l1.a l1.n l1.c] L
/-- hamper/hamperlaw12.HuffTwice -/
noncomputable def f11 (k : Nat) (l0 : Sl) (L : LHeap) : R :=
  lcall Proofs.Try.prog Proofs.Ytlcchghlhfamjaa.X.T k 11 [Value.slice l0.a l0.n l0.c] L
/-- hamper/hamperlaw12.HuffPrefix -/
noncomputable def f12 (k : Nat) (l0 : Sl) (L : LHeap) : R :=
  lcall Proofs.Try.prog Proofs.Ytlcchghlhfamjaa.X.T k 12 [Value.slice l0.a l0.n l0.c] L
/-- hamper/hamperlaw12.HuffCodes -/
noncomputable def f13 (k : Nat) (l0 : Sl) (L : LHeap) : R :=
  lcall Proofs.Try.prog Proofs.Ytlcchghlhfamjaa.X.T k 13 [Value.slice l0.a l0.n l0.c] L
/-- hamper/hamperlaw12.HuffFull -/
noncomputable def f14 (k : Nat) (l0 : Sl) (s1 : ByteArray) (L : LHeap) : R :=
  lcall Proofs.Try.prog Proofs.Ytlcchghlhfamjaa.X.T k 14 [Value.slice l0.a l0.n l0.c, Value.string s1] L
/-- hamper/hamperlaw12.HuffNames -/
noncomputable def f15 (k : Nat) (L : LHeap) : R :=
  lcall Proofs.Try.prog Proofs.Ytlcchghlhfamjaa.X.T k 15 [] L
/-- hamper/hamperlaw12.HuffBack -/
noncomputable def f16 (k : Nat) (l0 : Sl) (l1 : Sl) (L : LHeap) : R :=
  lcall Proofs.Try.prog Proofs.Ytlcchghlhfamjaa.X.T k 16 [Value.slice l0.a l0.n l0.c, Value.slice l1.a l1.n l1.c] L
/-- hamper/hamperlaw12.HuffTakes -/
noncomputable def f17 (k : Nat) (l0 : Sl) (l1 : Sl) (s2 : ByteArray) (L : LHeap) : R :=
  lcall Proofs.Try.prog Proofs.Ytlcchghlhfamjaa.X.T k 17 [Value.slice l0.a l0.n l0.c, Value.slice l1.a l1.n l1.c, Value.string s2] L
/-- hamper/hamperlaw12.awake -/
noncomputable def f33 (k : Nat) (L : LHeap) : R :=
  lcall Proofs.Try.prog Proofs.Ytlcchghlhfamjaa.X.T k 33 [] L
/-- hamper/huff.Lengths -/
noncomputable def f34 (k : Nat) (l0 : Sl) (L : LHeap) : R :=
  lcall Proofs.Try.prog Proofs.Ytlcchghlhfamjaa.X.T k 34 [Value.slice l0.a l0.n l0.c] L
/-- hamper/hamperref12.Lengths -/
noncomputable def f35 (k : Nat) (l0 : Sl) (L : LHeap) : R :=
  lcall Proofs.Try.prog Proofs.Ytlcchghlhfamjaa.X.T k 35 [Value.slice l0.a l0.n l0.c] L
/-- hamper/hamperref12.Ints -/
noncomputable def f36 (k : Nat) (l0 : Sl) (l1 : Sl) (L : LHeap) : R :=
  lcall Proofs.Try.prog Proofs.Ytlcchghlhfamjaa.X.T k 36 [Value.slice l0.a l0.n l0.c, Value.slice l1.a l1.n l1.c] L
/-- hamper/huff.May -/
noncomputable def f37 (k : Nat) (l0 : Sl) (L : LHeap) : R :=
  lcall Proofs.Try.prog Proofs.Ytlcchghlhfamjaa.X.T k 37 [Value.slice l0.a l0.n l0.c] L
/-- hamper/hamperref12.Fill -/
noncomputable def f38 (k : Nat) (l0 : Sl) (L : LHeap) : R :=
  lcall Proofs.Try.prog Proofs.Ytlcchghlhfamjaa.X.T k 38 [Value.slice l0.a l0.n l0.c] L
/-- hamper/huff.Codes -/
noncomputable def f39 (k : Nat) (l0 : Sl) (L : LHeap) : R :=
  lcall Proofs.Try.prog Proofs.Ytlcchghlhfamjaa.X.T k 39 [Value.slice l0.a l0.n l0.c] L
/-- hamper/hamperref12.Bits -/
noncomputable def f40 (k : Nat) (n0 : Int) (n1 : Int) (L : LHeap) : R :=
  lcall Proofs.Try.prog Proofs.Ytlcchghlhfamjaa.X.T k 40 [Value.int IntKind.u32 n0, Value.int IntKind.i64 n1] L
/-- hamper/hamperref12.Codes -/
noncomputable def f41 (k : Nat) (l0 : Sl) (L : LHeap) : R :=
  lcall Proofs.Try.prog Proofs.Ytlcchghlhfamjaa.X.T k 41 [Value.slice l0.a l0.n l0.c] L
/-- hamper/huff.New -/
noncomputable def f42 (k : Nat) (l0 : Sl) (L : LHeap) : R :=
  lcall Proofs.Try.prog Proofs.Ytlcchghlhfamjaa.X.T k 42 [Value.slice l0.a l0.n l0.c] L
/-- hamper/hamperref12.May -/
noncomputable def f43 (k : Nat) (l0 : Sl) (L : LHeap) : R :=
  lcall Proofs.Try.prog Proofs.Ytlcchghlhfamjaa.X.T k 43 [Value.slice l0.a l0.n l0.c] L
/-- (*hamper/huff.Coder).Take -/
noncomputable def f44 (k : Nat) (p0 : Option Addr) (p1 : Option Addr) (L : LHeap) : R :=
  lcall Proofs.Try.prog Proofs.Ytlcchghlhfamjaa.X.T k 44 [Value.pointer p0, Value.pointer p1] L
/-- (*hamper/huff.Coder).Put -/
noncomputable def f45 (k : Nat) (p0 : Option Addr) (p1 : Option Addr) (n2 : Int) (L : LHeap) : R :=
  lcall Proofs.Try.prog Proofs.Ytlcchghlhfamjaa.X.T k 45 [Value.pointer p0, Value.pointer p1, Value.int IntKind.i64 n2] L
/-- hamper/hamperlaw12.text -/
noncomputable def f46 (k : Nat) (s0 : ByteArray) (L : LHeap) : R :=
  lcall Proofs.Try.prog Proofs.Ytlcchghlhfamjaa.X.T k 46 [Value.string s0] L
/-- hamper/hamperref12.Take -/
noncomputable def f47 (k : Nat) (l0 : Sl) (s1 : ByteArray) (n2 : Int) (L : LHeap) : R :=
  lcall Proofs.Try.prog Proofs.Ytlcchghlhfamjaa.X.T k 47 [Value.slice l0.a l0.n l0.c, Value.string s1, Value.int IntKind.i64 n2] L
/-- slices.ContainsFunc[[]int,int] -/
noncomputable def f49 (k : Nat) (l0 : Sl) (v1 : Value) (L : LHeap) : R :=
  lcall Proofs.Try.prog Proofs.Ytlcchghlhfamjaa.X.T k 49 [Value.slice l0.a l0.n l0.c, v1] L
/-- hamper/huff.Lengths$1 -/
noncomputable def f50 (k : Nat) (n0 : Int) (L : LHeap) : R :=
  lcall Proofs.Try.prog Proofs.Ytlcchghlhfamjaa.X.T k 50 [Value.int IntKind.i64 n0] L
/-- slices.Clone[[]int,int] -/
noncomputable def f51 (k : Nat) (l0 : Sl) (L : LHeap) : R :=
  lcall Proofs.Try.prog Proofs.Ytlcchghlhfamjaa.X.T k 51 [Value.slice l0.a l0.n l0.c] L
/-- hamper/huff.once -/
noncomputable def f52 (k : Nat) (l0 : Sl) (L : LHeap) : R :=
  lcall Proofs.Try.prog Proofs.Ytlcchghlhfamjaa.X.T k 52 [Value.slice l0.a l0.n l0.c] L
/-- slices.Max[[]int,int] -/
noncomputable def f53 (k : Nat) (l0 : Sl) (L : LHeap) : R :=
  lcall Proofs.Try.prog Proofs.Ytlcchghlhfamjaa.X.T k 53 [Value.slice l0.a l0.n l0.c] L
/-- hamper/hamperref12.once -/
noncomputable def f54 (k : Nat) (l0 : Sl) (L : LHeap) : R :=
  lcall Proofs.Try.prog Proofs.Ytlcchghlhfamjaa.X.T k 54 [Value.slice l0.a l0.n l0.c] L
/-- hamper/huff.count -/
noncomputable def f55 (k : Nat) (l0 : Sl) (L : LHeap) : R :=
  lcall Proofs.Try.prog Proofs.Ytlcchghlhfamjaa.X.T k 55 [Value.slice l0.a l0.n l0.c] L
/-- hamper/huff.firsts -/
noncomputable def f56 (k : Nat) (c0 : Array Value) (L : LHeap) : R :=
  lcall Proofs.Try.prog Proofs.Ytlcchghlhfamjaa.X.T k 56 [Value.agg c0] L
/-- slices.IndexFunc[[]int,int] -/
noncomputable def f57 (k : Nat) (l0 : Sl) (v1 : Value) (L : LHeap) : R :=
  lcall Proofs.Try.prog Proofs.Ytlcchghlhfamjaa.X.T k 57 [Value.slice l0.a l0.n l0.c, v1] L
/-- hamper/huff.once$1 -/
noncomputable def f58 (k : Nat) (r0 : Nat) (r1 : Nat) (L : LHeap) : R :=
  lcall Proofs.Try.prog Proofs.Ytlcchghlhfamjaa.X.T k 58 [Value.pointer (some (Addr.mk r0 0 none)), Value.pointer (some (Addr.mk r1 0 none))] L
/-- slices.Delete[[]int,int] -/
noncomputable def f59 (k : Nat) (l0 : Sl) (n1 : Int) (n2 : Int) (L : LHeap) : R :=
  lcall Proofs.Try.prog Proofs.Ytlcchghlhfamjaa.X.T k 59 [Value.slice l0.a l0.n l0.c, Value.int IntKind.i64 n1, Value.int IntKind.i64 n2] L
/-- hamper/huff.once$2 -/
noncomputable def f60 (k : Nat) (n0 : Int) (n1 : Int) (r2 : Nat) (r3 : Nat) (r4 : Nat) (L : LHeap) : R :=
  lcall Proofs.Try.prog Proofs.Ytlcchghlhfamjaa.X.T k 60
  [Value.int IntKind.i64 n0, Value.int IntKind.i64 n1, Value.pointer (some (Addr.mk r2 0 none)), Value.pointer (some (Addr.mk r3 0 none)), Value.pointer (some (Addr.mk r4 0 none))] L

/-- slots 0, 3, 4 -/
noncomputable def f9_l5 (k : Nat) (j5 : Nat) (l8 : Sl) (l9 : Sl) (n10 : Int) (L : LHeap) : R :=
  loopAt Proofs.Try.prog Proofs.Ytlcchghlhfamjaa.X.T 9 k [1, 1, 1, 0, 1, 0] [] j5 [(0, Value.slice l8.a l8.n l8.c), (3, Value.slice l9.a l9.n l9.c), (4, Value.int IntKind.i64 n10)] L
/-- slots 0, 3, 4, 5, 10 -/
noncomputable def f9_l12 (k : Nat) (j5_11 : Nat) (j12 : Nat) (l12 : Sl) (l13 : Sl) (n14 : Int) (l15 : Sl) (n16 : Int) (L : LHeap) : R :=
  loopAt Proofs.Try.prog Proofs.Ytlcchghlhfamjaa.X.T 9 k [1, 1, 1, 0, 1, 0, 0, 1, 0, 0, 1, 1, 1, 1, 0] [j5_11] j12
  [(0, Value.slice l12.a l12.n l12.c), (3, Value.slice l13.a l13.n l13.c), (4, Value.int IntKind.i64 n14), (5, Value.slice l15.a l15.n l15.c), (10, Value.int IntKind.i64 n16)] L
theorem f9_eq (k : Nat) (l0 : Sl) (L : LHeap) : Proofs.Ytlcchghlhfamjaa.X.f9 (k + 1) l0 L =
  lif (decide ((↑l0.n : Int) > 600)) (lbind (Proofs.Ytlcchghlhfamjaa.X.f33 k L) fun v1 L2 => obind (asB v1) fun b3 => some (LR.ret (Value.bool b3) L2))
  (obind (srcOf (L ++ [LBlk.cells [] 3 false 0]) Proofs.Try.prog.types[3].size l0.n (Value.slice l0.a l0.n l0.c)) fun x4 =>
    obind (app (L ++ [LBlk.cells [] 3 false 0]) 3 Proofs.Try.prog.types[3].size Proofs.Try.prog.types[3].bytes (Sl.mk (some (Addr.mk (List.length L) 0 none)) 0 0) l0.n x4) fun x5 =>
      Proofs.Ytlcchghlhfamjaa.X.f9_l5 k k l0 x5.fst 0 x5.snd) := by kernel_rfl
theorem f9_l5_eq (k : Nat) (j5 : Nat) (l0 : Sl) (l1 : Sl) (n2 : Int) (L : LHeap) : Proofs.Ytlcchghlhfamjaa.X.f9_l5 k (j5 + 1) l0 l1 n2 L =
  lif (decide (n2 < 2))
  (lbind (Proofs.Ytlcchghlhfamjaa.X.f34 k l1 L) fun v3 L4 =>
    obind (tupL v3) fun x5 =>
      uncons x5 fun v6 vs7 =>
        obind (asSl v6) fun l8 =>
          uncons vs7 fun v9 vs10 =>
            obind (asI IntKind.i64 v9) fun n11 =>
              nilL vs10
                (lbind (Proofs.Ytlcchghlhfamjaa.X.f35 k l0 L4) fun v12 L13 =>
                  obind (tupL v12) fun x14 =>
                    uncons x14 fun v15 vs16 =>
                      obind (asSl v15) fun l17 =>
                        uncons vs16 fun v18 vs19 =>
                          obind (asB v18) fun b20 =>
                            uncons vs19 fun v21 vs22 =>
                              obind (asI IntKind.i64 v21) fun n23 =>
                                nilL vs22
                                  (lif (n11 != n23) (some (LR.ret (Value.bool false) L13))
                                    (lbind (Proofs.Ytlcchghlhfamjaa.X.f36 k l8 l17 L13) fun v24 L25 =>
                                      obind (asB v24) fun b26 => lif (!b26) (some (LR.ret (Value.bool false) L25)) (Proofs.Ytlcchghlhfamjaa.X.f9_l12 k j5 k l0 l1 n2 l8 0 L25)))))
  (lbind (Proofs.Ytlcchghlhfamjaa.X.f36 k l1 l0 L) fun v27 L28 =>
    obind (asB v27) fun b29 =>
      lif b29 (lbind (Proofs.Ytlcchghlhfamjaa.X.f33 k L28) fun v30 L31 => obind (asB v30) fun b32 => some (LR.ret (Value.bool b32) L31)) (some (LR.ret (Value.bool false) L28))) := by kernel_rfl
theorem f9_l12_eq (k : Nat) (j5_0 : Nat) (j12 : Nat) (l1 : Sl) (l2 : Sl) (n3 : Int) (l4 : Sl) (n5 : Int) (L : LHeap) : Proofs.Ytlcchghlhfamjaa.X.f9_l12 k j5_0 (j12 + 1) l1 l2 n3 l4 n5 L =
  lif (decide (n5 < (↑l4.n : Int)))
  (obind (idx l4 n5 1) fun a6 => obind (stores L a6 [Value.int IntKind.i64 (-7)]) fun L7 => Proofs.Ytlcchghlhfamjaa.X.f9_l12 k j5_0 j12 l1 l2 n3 l4 (IntKind.wrap IntKind.i64 (n5 + 1)) L7)
  (Proofs.Ytlcchghlhfamjaa.X.f9_l5 k j5_0 l1 l2 (IntKind.wrap IntKind.i64 (n3 + 1)) L) := by kernel_rfl

/-- slots 0, 1, 5, 8, 10 -/
noncomputable def f10_l10 (k : Nat) (j10 : Nat) (l31 : Sl) (l32 : Sl) (l33 : Sl) (b34 : Bool) (n35 : Int) (L : LHeap) : R :=
  loopAt Proofs.Try.prog Proofs.Ytlcchghlhfamjaa.X.T 10 k [1, 1, 1, 1, 1, 1, 0, 1, 0] [] j10
  [(0, Value.slice l31.a l31.n l31.c), (1, Value.slice l32.a l32.n l32.c), (5, Value.slice l33.a l33.n l33.c), (8, Value.bool b34), (10, Value.int IntKind.i64 n35)] L
/-- slots 0, 1, 5, 8, 10, 11 -/
noncomputable def f10_l15 (k : Nat) (j10_36 : Nat) (j15 : Nat) (l37 : Sl) (l38 : Sl) (l39 : Sl) (b40 : Bool) (n41 : Int) (n42 : Int) (L : LHeap) : R :=
  loopAt Proofs.Try.prog Proofs.Ytlcchghlhfamjaa.X.T 10 k [1, 1, 1, 1, 1, 1, 0, 1, 0, 0, 1, 0, 0, 1, 1, 0] [j10_36] j15
  [(0, Value.slice l37.a l37.n l37.c), (1, Value.slice l38.a l38.n l38.c), (5, Value.slice l39.a l39.n l39.c), (8, Value.bool b40), (10, Value.int IntKind.i64 n41), (11, Value.int IntKind.i64 n42)] L
/-- slots 0, 1, 5, 12, 13, 14 -/
noncomputable def f10_l23 (k : Nat) (j23 : Nat) (l43 : Sl) (l44 : Sl) (l45 : Sl) (n46 : Int) (n47 : Int) (n48 : Int) (L : LHeap) : R :=
  loopAt Proofs.Try.prog Proofs.Ytlcchghlhfamjaa.X.T 10 k [1, 1, 1, 1, 1, 1, 1, 1, 1, 0, 1, 0] [] j23
  [(0, Value.slice l43.a l43.n l43.c), (1, Value.slice l44.a l44.n l44.c), (5, Value.slice l45.a l45.n l45.c), (12, Value.int IntKind.i64 n46), (13, Value.int IntKind.i64 n47),
    (14, Value.int IntKind.i64 n48)]
  L
theorem f10_eq (k : Nat) (l0 : Sl) (l1 : Sl) (L : LHeap) : Proofs.Ytlcchghlhfamjaa.X.f10 (k + 1) l0 l1 L =
  lif (decide ((↑l0.n : Int) > 600)) (lbind (Proofs.Ytlcchghlhfamjaa.X.f33 k L) fun v2 L3 => obind (asB v2) fun b4 => some (LR.ret (Value.bool b4) L3))
  (lif (decide ((↑l1.n : Int) > 600)) (lbind (Proofs.Ytlcchghlhfamjaa.X.f33 k L) fun v5 L6 => obind (asB v5) fun b7 => some (LR.ret (Value.bool b7) L6))
    (lbind (Proofs.Ytlcchghlhfamjaa.X.f33 k L) fun v8 L9 =>
      obind (asB v8) fun b10 =>
        lif (!b10) (lbind (Proofs.Ytlcchghlhfamjaa.X.f33 k L9) fun v11 L12 => obind (asB v11) fun b13 => some (LR.ret (Value.bool b13) L12))
          (lbind (Proofs.Ytlcchghlhfamjaa.X.f34 k l0 L9) fun v14 L15 =>
            obind (tupL v14) fun x16 =>
              uncons x16 fun v17 vs18 =>
                obind (asSl v17) fun l19 =>
                  uncons vs18 fun v20 vs21 =>
                    obind (asI IntKind.i64 v20) fun n22 =>
                      nilL vs21
                        (lif (n22 != 0) (some (LR.ret (Value.bool ((↑l19.n : Int) == 0)) L15))
                          (lbind (Proofs.Ytlcchghlhfamjaa.X.f35 k l0 L15) fun v23 L24 =>
                            obind (tupL v23) fun x25 =>
                              uncons x25 fun v26 vs27 =>
                                obind (asSl v26) fun l28 =>
                                  uncons vs27 fun v29 vs30 =>
                                    obind (asB v29) fun b31 =>
                                      uncons vs30 fun v32 vs33 =>
                                        obind (asI IntKind.i64 v32) fun n34 =>
                                          nilL vs33
                                            (lif ((↑l19.n : Int) != (↑l0.n : Int)) (some (LR.ret (Value.bool false) L24))
                                              (lbind (Proofs.Ytlcchghlhfamjaa.X.f37 k l19 L24) fun v35 L36 =>
                                                obind (asB v35) fun b37 => lif (!b37) (some (LR.ret (Value.bool false) L36)) (Proofs.Ytlcchghlhfamjaa.X.f10_l10 k k l0 l1 l19 b31 0 L36)))))))) := by kernel_rfl
theorem f10_l10_eq (k : Nat) (j10 : Nat) (l0 : Sl) (l1 : Sl) (l2 : Sl) (b3 : Bool) (n4 : Int) (L : LHeap) : Proofs.Ytlcchghlhfamjaa.X.f10_l10 k (j10 + 1) l0 l1 l2 b3 n4 L =
  lif (decide (n4 < (↑l2.n : Int)))
  (obind (idx l2 n4 1) fun a5 =>
    obind (Option.bind (cell L a5) (asI IntKind.i64)) fun n6 =>
      obind (idx l0 n4 1) fun a7 =>
        obind (Option.bind (cell L a7) (asI IntKind.i64)) fun n8 =>
          lif (!decide (n6 > 0) == decide (n8 > 0)) (some (LR.ret (Value.bool false) L)) (Proofs.Ytlcchghlhfamjaa.X.f10_l15 k j10 k l0 l1 l2 b3 n4 0 L))
  (lif b3 (some (LR.ret (Value.bool true) L)) (lif ((↑l1.n : Int) != (↑l0.n : Int)) (some (LR.ret (Value.bool true) L)) (Proofs.Ytlcchghlhfamjaa.X.f10_l23 k k l0 l1 l2 0 0 0 L))) := by kernel_rfl
theorem f10_l15_eq (k : Nat) (j10_0 : Nat) (j15 : Nat) (l1 : Sl) (l2 : Sl) (l3 : Sl) (b4 : Bool) (n5 : Int) (n6 : Int) (L : LHeap) : Proofs.Ytlcchghlhfamjaa.X.f10_l15 k j10_0 (j15 + 1) l1 l2 l3 b4 n5 n6 L =
  lif (decide (n6 < n5))
  (lif (!b4)
    (obind (idx l3 n5 1) fun a7 =>
      obind (Option.bind (cell L a7) (asI IntKind.i64)) fun n8 =>
        lif (decide (n8 > 0))
          (obind (idx l3 n6 1) fun a9 =>
            obind (Option.bind (cell L a9) (asI IntKind.i64)) fun n10 =>
              lif (decide (n10 > 0))
                (obind (idx l1 n5 1) fun a11 =>
                  obind (Option.bind (cell L a11) (asI IntKind.i64)) fun n12 =>
                    obind (idx l1 n6 1) fun a13 =>
                      obind (Option.bind (cell L a13) (asI IntKind.i64)) fun n14 =>
                        lif (decide (n12 > n14))
                          (obind (idx l3 n5 1) fun a15 =>
                            obind (Option.bind (cell L a15) (asI IntKind.i64)) fun n16 =>
                              obind (idx l3 n6 1) fun a17 =>
                                obind (Option.bind (cell L a17) (asI IntKind.i64)) fun n18 =>
                                  lif (decide (n16 > n18)) (some (LR.ret (Value.bool false) L))
                                    (obind (idx l1 n5 1) fun a19 =>
                                      obind (Option.bind (cell L a19) (asI IntKind.i64)) fun n20 =>
                                        obind (idx l1 n6 1) fun a21 =>
                                          obind (Option.bind (cell L a21) (asI IntKind.i64)) fun n22 =>
                                            lif (decide (n20 < n22))
                                              (obind (idx l3 n5 1) fun a23 =>
                                                obind (Option.bind (cell L a23) (asI IntKind.i64)) fun n24 =>
                                                  obind (idx l3 n6 1) fun a25 =>
                                                    obind (Option.bind (cell L a25) (asI IntKind.i64)) fun n26 =>
                                                      lif (decide (n24 < n26)) (some (LR.ret (Value.bool false) L))
                                                        (Proofs.Ytlcchghlhfamjaa.X.f10_l15 k j10_0 j15 l1 l2 l3 b4 n5 (IntKind.wrap IntKind.i64 (n6 + 1)) L))
                                              (Proofs.Ytlcchghlhfamjaa.X.f10_l15 k j10_0 j15 l1 l2 l3 b4 n5 (IntKind.wrap IntKind.i64 (n6 + 1)) L)))
                          (obind (idx l1 n5 1) fun a27 =>
                            obind (Option.bind (cell L a27) (asI IntKind.i64)) fun n28 =>
                              obind (idx l1 n6 1) fun a29 =>
                                obind (Option.bind (cell L a29) (asI IntKind.i64)) fun n30 =>
                                  lif (decide (n28 < n30))
                                    (obind (idx l3 n5 1) fun a31 =>
                                      obind (Option.bind (cell L a31) (asI IntKind.i64)) fun n32 =>
                                        obind (idx l3 n6 1) fun a33 =>
                                          obind (Option.bind (cell L a33) (asI IntKind.i64)) fun n34 =>
                                            lif (decide (n32 < n34)) (some (LR.ret (Value.bool false) L))
                                              (Proofs.Ytlcchghlhfamjaa.X.f10_l15 k j10_0 j15 l1 l2 l3 b4 n5 (IntKind.wrap IntKind.i64 (n6 + 1)) L))
                                    (Proofs.Ytlcchghlhfamjaa.X.f10_l15 k j10_0 j15 l1 l2 l3 b4 n5 (IntKind.wrap IntKind.i64 (n6 + 1)) L)))
                (Proofs.Ytlcchghlhfamjaa.X.f10_l15 k j10_0 j15 l1 l2 l3 b4 n5 (IntKind.wrap IntKind.i64 (n6 + 1)) L))
          (Proofs.Ytlcchghlhfamjaa.X.f10_l15 k j10_0 j15 l1 l2 l3 b4 n5 (IntKind.wrap IntKind.i64 (n6 + 1)) L))
    (Proofs.Ytlcchghlhfamjaa.X.f10_l15 k j10_0 j15 l1 l2 l3 b4 n5 (IntKind.wrap IntKind.i64 (n6 + 1)) L))
  (Proofs.Ytlcchghlhfamjaa.X.f10_l10 k j10_0 l1 l2 l3 b4 (IntKind.wrap IntKind.i64 (n5 + 1)) L) := by kernel_rfl
theorem f10_l23_eq (k : Nat) (j23 : Nat) (l0 : Sl) (l1 : Sl) (l2 : Sl) (n3 : Int) (n4 : Int) (n5 : Int) (L : LHeap) : Proofs.Ytlcchghlhfamjaa.X.f10_l23 k (j23 + 1) l0 l1 l2 n3 n4 n5 L =
  lif (decide (n5 < (↑l2.n : Int)))
  (obind (idx l1 n5 1) fun a6 =>
    obind (Option.bind (cell L a6) (asI IntKind.i64)) fun n7 =>
      obind (idx l0 n5 1) fun a8 =>
        obind (Option.bind (cell L a8) (asI IntKind.i64)) fun n9 =>
          lif (!decide (n7 > 0) == decide (n9 > 0)) (some (LR.ret (Value.bool true) L))
            (obind (idx l1 n5 1) fun a10 =>
              obind (Option.bind (cell L a10) (asI IntKind.i64)) fun n11 =>
                lif (decide (n11 < 0)) (some (LR.ret (Value.bool true) L))
                  (obind (idx l1 n5 1) fun a12 =>
                    obind (Option.bind (cell L a12) (asI IntKind.i64)) fun n13 =>
                      lif (decide (n13 > 15)) (some (LR.ret (Value.bool true) L))
                        (obind (idx l2 n5 1) fun a14 =>
                          obind (Option.bind (cell L a14) (asI IntKind.i64)) fun n15 =>
                            obind (idx l0 n5 1) fun a16 =>
                              obind (Option.bind (cell L a16) (asI IntKind.i64)) fun n17 =>
                                obind (idx l1 n5 1) fun a18 =>
                                  obind (Option.bind (cell L a18) (asI IntKind.i64)) fun n19 =>
                                    obind (idx l0 n5 1) fun a20 =>
                                      obind (Option.bind (cell L a20) (asI IntKind.i64)) fun n21 =>
                                        Proofs.Ytlcchghlhfamjaa.X.f10_l23 k j23 l0 l1 l2 (IntKind.wrap IntKind.i64 (n3 + IntKind.wrap IntKind.i64 (n15 * n17)))
                                          (IntKind.wrap IntKind.i64 (n4 + IntKind.wrap IntKind.i64 (n19 * n21))) (IntKind.wrap IntKind.i64 (n5 + 1)) L))))
  (lbind (Proofs.Ytlcchghlhfamjaa.X.f38 k l1 L) fun v22 L23 =>
    obind (tupL v22) fun x24 =>
      uncons x24 fun v25 vs26 =>
        obind (asI IntKind.i64 v25) fun n27 =>
          uncons vs26 fun v28 vs29 =>
            obind (asI IntKind.i64 v28) fun n30 => nilL vs29 (lif (decide (n27 > 32768)) (some (LR.ret (Value.bool true) L23)) (some (LR.ret (Value.bool (decide (n3 ≤ n4))) L23)))) := by kernel_rfl

/-- slots 0, 3, 4 -/
noncomputable def f11_l5 (k : Nat) (j5 : Nat) (l44 : Sl) (l45 : Sl) (n46 : Int) (L : LHeap) : R :=
  loopAt Proofs.Try.prog Proofs.Ytlcchghlhfamjaa.X.T 11 k [1, 1, 1, 0, 1, 0] [] j5 [(0, Value.slice l44.a l44.n l44.c), (3, Value.slice l45.a l45.n l45.c), (4, Value.int IntKind.i64 n46)] L
theorem f11_eq (k : Nat) (l0 : Sl) (L : LHeap) : Proofs.Ytlcchghlhfamjaa.X.f11 (k + 1) l0 L =
  lif (decide ((↑l0.n : Int) > 512)) (lbind (Proofs.Ytlcchghlhfamjaa.X.f33 k L) fun v1 L2 => obind (asB v1) fun b3 => some (LR.ret (Value.bool b3) L2))
  (lbind (Proofs.Ytlcchghlhfamjaa.X.f33 k L) fun v4 L5 =>
    obind (asB v4) fun b6 =>
      lif (!b6) (lbind (Proofs.Ytlcchghlhfamjaa.X.f33 k L5) fun v7 L8 => obind (asB v7) fun b9 => some (LR.ret (Value.bool b9) L8)) (Proofs.Ytlcchghlhfamjaa.X.f11_l5 k k l0 (Sl.mk none 0 0) 0 L5)) := by kernel_rfl
theorem f11_l5_eq (k : Nat) (j5 : Nat) (l0 : Sl) (l1 : Sl) (n2 : Int) (L : LHeap) : Proofs.Ytlcchghlhfamjaa.X.f11_l5 k (j5 + 1) l0 l1 n2 L =
  lif (decide (n2 < (↑l0.n : Int)))
  (obind (idx l0 n2 1) fun a3 =>
    obind (Option.bind (cell L a3) (asI IntKind.i64)) fun n4 =>
      lif (decide (n4 < 0)) (some (LR.ret (Value.bool true) L))
        (obind (idx l0 n2 1) fun a5 =>
          obind (Option.bind (cell L a5) (asI IntKind.i64)) fun n6 =>
            lif (decide (n6 > 536870912)) (some (LR.ret (Value.bool true) L))
              (obind (idx l0 n2 1) fun a7 =>
                obind (Option.bind (cell L a7) (asI IntKind.i64)) fun n8 =>
                  obind
                    (srcOf (L ++ [LBlk.cells [Value.int IntKind.i64 (IntKind.wrap IntKind.i64 (2 * n8))] 3 false 0]) Proofs.Try.prog.types[3].size 1
                      (Value.slice (some (Addr.mk (List.length L) 0 none)) 1 1))
                    fun x9 =>
                    obind (app (L ++ [LBlk.cells [Value.int IntKind.i64 (IntKind.wrap IntKind.i64 (2 * n8))] 3 false 0]) 3 Proofs.Try.prog.types[3].size Proofs.Try.prog.types[3].bytes l1 1 x9)
                      fun x10 => Proofs.Ytlcchghlhfamjaa.X.f11_l5 k j5 l0 x10.fst (IntKind.wrap IntKind.i64 (n2 + 1)) x10.snd)))
  (lbind (Proofs.Ytlcchghlhfamjaa.X.f34 k l0 L) fun v11 L12 =>
    obind (tupL v11) fun x13 =>
      uncons x13 fun v14 vs15 =>
        obind (asSl v14) fun l16 =>
          uncons vs15 fun v17 vs18 =>
            obind (asI IntKind.i64 v17) fun n19 =>
              nilL vs18
                (lbind (Proofs.Ytlcchghlhfamjaa.X.f34 k l1 L12) fun v20 L21 =>
                  obind (tupL v20) fun x22 =>
                    uncons x22 fun v23 vs24 =>
                      obind (asSl v23) fun l25 =>
                        uncons vs24 fun v26 vs27 =>
                          obind (asI IntKind.i64 v26) fun n28 =>
                            nilL vs27
                              (lbind (Proofs.Ytlcchghlhfamjaa.X.f35 k l0 L21) fun v29 L30 =>
                                obind (tupL v29) fun x31 =>
                                  uncons x31 fun v32 vs33 =>
                                    obind (asSl v32) fun l34 =>
                                      uncons vs33 fun v35 vs36 =>
                                        obind (asB v35) fun b37 =>
                                          uncons vs36 fun v38 vs39 =>
                                            obind (asI IntKind.i64 v38) fun n40 =>
                                              nilL vs39
                                                (lif (n19 == 0)
                                                  (lif (n28 == 0)
                                                    (lif b37 (some (LR.ret (Value.bool true) L30))
                                                      (lbind (Proofs.Ytlcchghlhfamjaa.X.f36 k l16 l25 L30) fun v41 L42 => obind (asB v41) fun b43 => some (LR.ret (Value.bool b43) L42)))
                                                    (some (LR.ret (Value.bool false) L30)))
                                                  (some (LR.ret (Value.bool false) L30)))))) := by kernel_rfl

/-- slots 0, 3, 5 -/
noncomputable def f12_l7 (k : Nat) (j7 : Nat) (l32 : Sl) (l33 : Sl) (n34 : Int) (L : LHeap) : R :=
  loopAt Proofs.Try.prog Proofs.Ytlcchghlhfamjaa.X.T 12 k [1, 1, 1, 1, 0, 1, 0] [] j7 [(0, Value.slice l32.a l32.n l32.c), (3, Value.slice l33.a l33.n l33.c), (5, Value.int IntKind.i64 n34)] L
/-- slots 0, 3, 5, 6, 7 -/
noncomputable def f12_l16 (k : Nat) (j7_35 : Nat) (j16 : Nat) (l36 : Sl) (l37 : Sl) (n38 : Int) (s39 : ByteArray) (n40 : Int) (L : LHeap) : R :=
  loopAt Proofs.Try.prog Proofs.Ytlcchghlhfamjaa.X.T 12 k [1, 1, 1, 1, 0, 1, 0, 0, 1, 0, 0, 1, 1, 1, 1, 0] [j7_35] j16
  [(0, Value.slice l36.a l36.n l36.c), (3, Value.slice l37.a l37.n l37.c), (5, Value.int IntKind.i64 n38), (6, Value.string s39), (7, Value.int IntKind.i64 n40)] L
theorem f12_eq (k : Nat) (l0 : Sl) (L : LHeap) : Proofs.Ytlcchghlhfamjaa.X.f12 (k + 1) l0 L =
  lif (decide ((↑l0.n : Int) > 200)) (lbind (Proofs.Ytlcchghlhfamjaa.X.f33 k L) fun v1 L2 => obind (asB v1) fun b3 => some (LR.ret (Value.bool b3) L2))
  (lbind (Proofs.Ytlcchghlhfamjaa.X.f33 k L) fun v4 L5 =>
    obind (asB v4) fun b6 =>
      lif (!b6) (lbind (Proofs.Ytlcchghlhfamjaa.X.f33 k L5) fun v7 L8 => obind (asB v7) fun b9 => some (LR.ret (Value.bool b9) L8))
        (lbind (Proofs.Ytlcchghlhfamjaa.X.f39 k l0 L5) fun v10 L11 =>
          obind (tupL v10) fun x12 =>
            uncons x12 fun v13 vs14 =>
              obind (asSl v13) fun l15 =>
                uncons vs14 fun v16 vs17 =>
                  obind (asI IntKind.i64 v16) fun n18 =>
                    nilL vs17
                      (lif (n18 != 0)
                        (lif ((↑l15.n : Int) == 0) (lbind (Proofs.Ytlcchghlhfamjaa.X.f37 k l0 L11) fun v19 L20 => obind (asB v19) fun b21 => some (LR.ret (Value.bool !b21) L20))
                          (some (LR.ret (Value.bool false) L11)))
                        (Proofs.Ytlcchghlhfamjaa.X.f12_l7 k k l0 l15 0 L11)))) := by kernel_rfl
theorem f12_l7_eq (k : Nat) (j7 : Nat) (l0 : Sl) (l1 : Sl) (n2 : Int) (L : LHeap) : Proofs.Ytlcchghlhfamjaa.X.f12_l7 k (j7 + 1) l0 l1 n2 L =
  lif (decide (n2 < (↑l1.n : Int)))
  (obind (idx l0 n2 1) fun a3 =>
    obind (Option.bind (cell L a3) (asI IntKind.i64)) fun n4 =>
      lif (n4 == 0)
        (obind (idx l1 n2 1) fun a5 =>
          obind (Option.bind (cell L a5) (asI IntKind.u32)) fun n6 =>
            lif (n6 != 0) (some (LR.ret (Value.bool false) L)) (Proofs.Ytlcchghlhfamjaa.X.f12_l7 k j7 l0 l1 (IntKind.wrap IntKind.i64 (n2 + 1)) L))
        (obind (idx l1 n2 1) fun a7 =>
          obind (Option.bind (cell L a7) (asI IntKind.u32)) fun n8 =>
            obind (idx l0 n2 1) fun a9 =>
              obind (Option.bind (cell L a9) (asI IntKind.i64)) fun n10 =>
                lbindR (Proofs.Ytlcchghlhfamjaa.X.f40 k n8 n10 L) fun v11 L12 =>
                  obind (asS v11) fun s13 =>
                    obind (idx l1 n2 1) fun a14 =>
                      obind (Option.bind (cell L12 a14) (asI IntKind.u32)) fun n15 =>
                        obind (idx l0 n2 1) fun a16 =>
                          obind (Option.bind (cell L12 a16) (asI IntKind.i64)) fun n17 =>
                            when (!decide (n17 < 0))
                              (lif (decide (n15 ≥ IntKind.wrap IntKind.u32 (1 * 2 ^ min (Int.toNat n17) 32))) (some (LR.ret (Value.bool false) L12))
                                (Proofs.Ytlcchghlhfamjaa.X.f12_l16 k j7 k l0 l1 n2 s13 0 L12))))
  (some (LR.ret (Value.bool true) L)) := by kernel_rfl
theorem f12_l16_eq (k : Nat) (j7_0 : Nat) (j16 : Nat) (l1 : Sl) (l2 : Sl) (n3 : Int) (s4 : ByteArray) (n5 : Int) (L : LHeap) : Proofs.Ytlcchghlhfamjaa.X.f12_l16 k j7_0 (j16 + 1) l1 l2 n3 s4 n5 L =
  lif (decide (n5 < (↑l2.n : Int)))
  (lif (n5 == n3) (Proofs.Ytlcchghlhfamjaa.X.f12_l16 k j7_0 j16 l1 l2 n3 s4 (IntKind.wrap IntKind.i64 (n5 + 1)) L)
    (obind (idx l1 n5 1) fun a6 =>
      obind (Option.bind (cell L a6) (asI IntKind.i64)) fun n7 =>
        lif (n7 == 0) (Proofs.Ytlcchghlhfamjaa.X.f12_l16 k j7_0 j16 l1 l2 n3 s4 (IntKind.wrap IntKind.i64 (n5 + 1)) L)
          (obind (idx l1 n5 1) fun a8 =>
            obind (Option.bind (cell L a8) (asI IntKind.i64)) fun n9 =>
              obind (idx l1 n3 1) fun a10 =>
                obind (Option.bind (cell L a10) (asI IntKind.i64)) fun n11 =>
                  lif (decide (n9 < n11)) (Proofs.Ytlcchghlhfamjaa.X.f12_l16 k j7_0 j16 l1 l2 n3 s4 (IntKind.wrap IntKind.i64 (n5 + 1)) L)
                    (obind (idx l1 n5 1) fun a12 =>
                      obind (Option.bind (cell L a12) (asI IntKind.i64)) fun n13 =>
                        obind (idx l1 n3 1) fun a14 =>
                          obind (Option.bind (cell L a14) (asI IntKind.i64)) fun n15 =>
                            lif (n13 == n15)
                              (lif (decide (n5 < n3)) (Proofs.Ytlcchghlhfamjaa.X.f12_l16 k j7_0 j16 l1 l2 n3 s4 (IntKind.wrap IntKind.i64 (n5 + 1)) L)
                                (obind (idx l2 n5 1) fun a16 =>
                                  obind (Option.bind (cell L a16) (asI IntKind.u32)) fun n17 =>
                                    obind (idx l1 n5 1) fun a18 =>
                                      obind (Option.bind (cell L a18) (asI IntKind.i64)) fun n19 =>
                                        lbindR (Proofs.Ytlcchghlhfamjaa.X.f40 k n17 n19 L) fun v20 L21 =>
                                          obind (asS v20) fun s22 =>
                                            obind (subS s22 none (some (↑(ByteArray.size s4) : Int))) fun s23 =>
                                              lif (Op.bytesLess (ByteArray.toList s23) (ByteArray.toList s4) || ByteArray.toList s23 == ByteArray.toList s4) (some (LR.ret (Value.bool false) L21))
                                                (Proofs.Ytlcchghlhfamjaa.X.f12_l16 k j7_0 j16 l1 l2 n3 s4 (IntKind.wrap IntKind.i64 (n5 + 1)) L21)))
                              (obind (idx l2 n5 1) fun a24 =>
                                obind (Option.bind (cell L a24) (asI IntKind.u32)) fun n25 =>
                                  obind (idx l1 n5 1) fun a26 =>
                                    obind (Option.bind (cell L a26) (asI IntKind.i64)) fun n27 =>
                                      lbindR (Proofs.Ytlcchghlhfamjaa.X.f40 k n25 n27 L) fun v28 L29 =>
                                        obind (asS v28) fun s30 =>
                                          obind (subS s30 none (some (↑(ByteArray.size s4) : Int))) fun s31 =>
                                            lif (Op.bytesLess (ByteArray.toList s31) (ByteArray.toList s4) || ByteArray.toList s31 == ByteArray.toList s4) (some (LR.ret (Value.bool false) L29))
                                              (Proofs.Ytlcchghlhfamjaa.X.f12_l16 k j7_0 j16 l1 l2 n3 s4 (IntKind.wrap IntKind.i64 (n5 + 1)) L29))))))
  (Proofs.Ytlcchghlhfamjaa.X.f12_l7 k j7_0 l1 l2 (IntKind.wrap IntKind.i64 (n3 + 1)) L) := by kernel_rfl

/-- slots 0, 3 -/
noncomputable def f13_l4 (k : Nat) (j4 : Nat) (l12 : Sl) (n13 : Int) (L : LHeap) : R :=
  loopAt Proofs.Try.prog Proofs.Ytlcchghlhfamjaa.X.T 13 k [1, 1, 0, 1, 0] [] j4 [(0, Value.slice l12.a l12.n l12.c), (3, Value.int IntKind.i64 n13)] L
/-- slots 0, 3, 4, 6, 10 -/
noncomputable def f13_l12 (k : Nat) (j4_14 : Nat) (j12 : Nat) (l15 : Sl) (n16 : Int) (l17 : Sl) (l18 : Sl) (n19 : Int) (L : LHeap) : R :=
  loopAt Proofs.Try.prog Proofs.Ytlcchghlhfamjaa.X.T 13 k [1, 1, 0, 1, 0, 0, 1, 0, 0, 1, 1, 1, 1, 1, 0] [j4_14] j12
  [(0, Value.slice l15.a l15.n l15.c), (3, Value.int IntKind.i64 n16), (4, Value.slice l17.a l17.n l17.c), (6, Value.slice l18.a l18.n l18.c), (10, Value.int IntKind.i64 n19)] L
theorem f13_eq (k : Nat) (l0 : Sl) (L : LHeap) : Proofs.Ytlcchghlhfamjaa.X.f13 (k + 1) l0 L =
  lif (decide ((↑l0.n : Int) > 600)) (lbind (Proofs.Ytlcchghlhfamjaa.X.f33 k L) fun v1 L2 => obind (asB v1) fun b3 => some (LR.ret (Value.bool b3) L2)) (Proofs.Ytlcchghlhfamjaa.X.f13_l4 k k l0 0 L) := by kernel_rfl
theorem f13_l4_eq (k : Nat) (j4 : Nat) (l0 : Sl) (n1 : Int) (L : LHeap) : Proofs.Ytlcchghlhfamjaa.X.f13_l4 k (j4 + 1) l0 n1 L =
  lif (decide (n1 < 2))
  (lbind (Proofs.Ytlcchghlhfamjaa.X.f39 k l0 L) fun v2 L3 =>
    obind (tupL v2) fun x4 =>
      uncons x4 fun v5 vs6 =>
        obind (asSl v5) fun l7 =>
          uncons vs6 fun v8 vs9 =>
            obind (asI IntKind.i64 v8) fun n10 =>
              nilL vs9
                (lbind (Proofs.Ytlcchghlhfamjaa.X.f41 k l0 L3) fun v11 L12 =>
                  obind (tupL v11) fun x13 =>
                    uncons x13 fun v14 vs15 =>
                      obind (asSl v14) fun l16 =>
                        uncons vs15 fun v17 vs18 =>
                          obind (asI IntKind.i64 v17) fun n19 =>
                            nilL vs18
                              (lbind (Proofs.Ytlcchghlhfamjaa.X.f42 k l0 L12) fun v20 L21 =>
                                obind (tupL v20) fun x22 =>
                                  uncons x22 fun v23 vs24 =>
                                    obind (asP v23) fun x25 =>
                                      uncons vs24 fun v26 vs27 =>
                                        obind (asI IntKind.i64 v26) fun n28 =>
                                          nilL vs27
                                            (lif (n10 != n19) (some (LR.ret (Value.bool false) L21))
                                              (lif ((↑l7.n : Int) != (↑l16.n : Int)) (some (LR.ret (Value.bool false) L21))
                                                (lif (n28 != n19) (some (LR.ret (Value.bool false) L21))
                                                  (lif (!Option.isNone x25 == (n19 != 0)) (some (LR.ret (Value.bool false) L21)) (Proofs.Ytlcchghlhfamjaa.X.f13_l12 k j4 k l0 n1 l7 l16 0 L21))))))))
  (lbind (Proofs.Ytlcchghlhfamjaa.X.f37 k l0 L) fun v29 L30 =>
    obind (asB v29) fun b31 =>
      lbind (Proofs.Ytlcchghlhfamjaa.X.f43 k l0 L30) fun v32 L33 =>
        obind (asB v32) fun b34 =>
          lif (b31 == b34) (lbind (Proofs.Ytlcchghlhfamjaa.X.f33 k L33) fun v35 L36 => obind (asB v35) fun b37 => some (LR.ret (Value.bool b37) L36)) (some (LR.ret (Value.bool false) L33))) := by kernel_rfl
theorem f13_l12_eq (k : Nat) (j4_0 : Nat) (j12 : Nat) (l1 : Sl) (n2 : Int) (l3 : Sl) (l4 : Sl) (n5 : Int) (L : LHeap) : Proofs.Ytlcchghlhfamjaa.X.f13_l12 k j4_0 (j12 + 1) l1 n2 l3 l4 n5 L =
  lif (decide (n5 < (↑l3.n : Int)))
  (obind (idx l3 n5 1) fun a6 =>
    obind (Option.bind (cell L a6) (asI IntKind.u32)) fun n7 =>
      obind (idx l4 n5 1) fun a8 =>
        obind (Option.bind (cell L a8) (asI IntKind.u32)) fun n9 =>
          lif (n7 != n9) (some (LR.ret (Value.bool false) L))
            (obind (idx l3 n5 1) fun a10 =>
              obind (stores L a10 [Value.int IntKind.u32 777]) fun L11 => Proofs.Ytlcchghlhfamjaa.X.f13_l12 k j4_0 j12 l1 n2 l3 l4 (IntKind.wrap IntKind.i64 (n5 + 1)) L11))
  (Proofs.Ytlcchghlhfamjaa.X.f13_l4 k j4_0 l1 (IntKind.wrap IntKind.i64 (n2 + 1)) L) := by kernel_rfl

/-- slots 1, 5, 6, 7, 8 -/
noncomputable def f14_l6 (k : Nat) (j6 : Nat) (s19 : ByteArray) (l20 : Sl) (n21 : Int) (n22 : Int) (n23 : Int) (L : LHeap) : R :=
  loopAt Proofs.Try.prog Proofs.Ytlcchghlhfamjaa.X.T 14 k [1, 1, 1, 1, 0, 1, 0] [] j6
  [(1, Value.string s19), (5, Value.slice l20.a l20.n l20.c), (6, Value.int IntKind.i64 n21), (7, Value.int IntKind.i64 n22), (8, Value.int IntKind.i64 n23)] L
/-- slots 1, 5, 9, 10, 11, 12 -/
noncomputable def f14_l18 (k : Nat) (j18 : Nat) (s24 : ByteArray) (l25 : Sl) (p26 : Option Addr) (p27 : Option Addr) (n28 : Int) (n29 : Int) (L : LHeap) : R :=
  loopAt Proofs.Try.prog Proofs.Ytlcchghlhfamjaa.X.T 14 k [1, 1, 1, 1, 1, 1, 1, 1, 1, 1, 0, 1, 0] [] j18
  [(1, Value.string s24), (5, Value.slice l25.a l25.n l25.c), (9, Value.pointer p26), (10, Value.pointer p27), (11, Value.int IntKind.i64 n28), (12, Value.int IntKind.i64 n29)] L
theorem f14_eq (k : Nat) (l0 : Sl) (s1 : ByteArray) (L : LHeap) : Proofs.Ytlcchghlhfamjaa.X.f14 (k + 1) l0 s1 L =
  lif (decide ((↑l0.n : Int) > 200)) (lbind (Proofs.Ytlcchghlhfamjaa.X.f33 k L) fun v2 L3 => obind (asB v2) fun b4 => some (LR.ret (Value.bool b4) L3))
  (lif (decide ((↑(ByteArray.size s1) : Int) > 200)) (lbind (Proofs.Ytlcchghlhfamjaa.X.f33 k L) fun v5 L6 => obind (asB v5) fun b7 => some (LR.ret (Value.bool b7) L6))
    (lbind (Proofs.Ytlcchghlhfamjaa.X.f33 k L) fun v8 L9 =>
      obind (asB v8) fun b10 =>
        lif (!b10) (lbind (Proofs.Ytlcchghlhfamjaa.X.f33 k L9) fun v11 L12 => obind (asB v11) fun b13 => some (LR.ret (Value.bool b13) L12))
          (lbind (Proofs.Ytlcchghlhfamjaa.X.f34 k l0 L9) fun v14 L15 =>
            obind (tupL v14) fun x16 =>
              uncons x16 fun v17 vs18 =>
                obind (asSl v17) fun l19 => uncons vs18 fun v20 vs21 => obind (asI IntKind.i64 v20) fun n22 => nilL vs21 (Proofs.Ytlcchghlhfamjaa.X.f14_l6 k k s1 l19 n22 0 0 L15)))) := by kernel_rfl
theorem f14_l6_eq (k : Nat) (j6 : Nat) (s0 : ByteArray) (l1 : Sl) (n2 : Int) (n3 : Int) (n4 : Int) (L : LHeap) : Proofs.Ytlcchghlhfamjaa.X.f14_l6 k (j6 + 1) s0 l1 n2 n3 n4 L =
  lif (decide (n4 < (↑l1.n : Int)))
  (obind (idx l1 n4 1) fun a5 =>
    obind (Option.bind (cell L a5) (asI IntKind.i64)) fun n6 =>
      lif (decide (n6 > 0)) (Proofs.Ytlcchghlhfamjaa.X.f14_l6 k j6 s0 l1 n2 (IntKind.wrap IntKind.i64 (n3 + 1)) (IntKind.wrap IntKind.i64 (n4 + 1)) L)
        (Proofs.Ytlcchghlhfamjaa.X.f14_l6 k j6 s0 l1 n2 n3 (IntKind.wrap IntKind.i64 (n4 + 1)) L))
  (lif (n2 != 0) (some (LR.ret (Value.bool true) L))
    (lif (decide (n3 < 2)) (some (LR.ret (Value.bool true) L))
      (lbind (Proofs.Ytlcchghlhfamjaa.X.f42 k l1 L) fun v7 L8 =>
        obind (tupL v7) fun x9 =>
          uncons x9 fun v10 vs11 =>
            obind (asP v10) fun x12 =>
              uncons vs11 fun v13 vs14 =>
                obind (asI IntKind.i64 v13) fun n15 =>
                  nilL vs14
                    (lif (n15 != 0) (some (LR.ret (Value.bool false) L8))
                      (lbind (Proofs.Ytlcchghlhfamjaa.X.f24 k s0 L8) fun v16 L17 => obind (asP v16) fun x18 => Proofs.Ytlcchghlhfamjaa.X.f14_l18 k k s0 l1 x12 x18 0 0 L17))))) := by kernel_rfl
theorem f14_l18_eq (k : Nat) (j18 : Nat) (s0 : ByteArray) (l1 : Sl) (p2 : Option Addr) (p3 : Option Addr) (n4 : Int) (n5 : Int) (L : LHeap) : Proofs.Ytlcchghlhfamjaa.X.f14_l18 k (j18 + 1) s0 l1 p2 p3 n4 n5 L =
  lif (decide (n5 < IntKind.wrap IntKind.i64 (IntKind.wrap IntKind.i64 (8 * (↑(ByteArray.size s0) : Int)) + 1)))
  (lbind (Proofs.Ytlcchghlhfamjaa.X.f44 k p2 p3 L) fun v6 L7 =>
    obind (tupL v6) fun x8 =>
      uncons x8 fun v9 vs10 =>
        obind (asI IntKind.i64 v9) fun n11 =>
          uncons vs10 fun v12 vs13 =>
            obind (asI IntKind.i64 v12) fun n14 =>
              nilL vs13
                (lif (n14 != 0)
                  (lif (decide (n4 > IntKind.wrap IntKind.i64 (IntKind.wrap IntKind.i64 (8 * (↑(ByteArray.size s0) : Int)) - 15)))
                    (some (LR.ret (Value.bool (decide (n4 ≤ IntKind.wrap IntKind.i64 (8 * (↑(ByteArray.size s0) : Int))))) L7)) (some (LR.ret (Value.bool false) L7)))
                  (lif (decide (n11 < 0)) (some (LR.ret (Value.bool false) L7))
                    (lif (decide (n11 ≥ (↑l1.n : Int))) (some (LR.ret (Value.bool false) L7))
                      (obind (idx l1 n11 1) fun a15 =>
                        obind (Option.bind (cell L7 a15) (asI IntKind.i64)) fun n16 =>
                          lif (n16 == 0) (some (LR.ret (Value.bool false) L7))
                            (obind (idx l1 n11 1) fun a17 =>
                              obind (Option.bind (cell L7 a17) (asI IntKind.i64)) fun n18 =>
                                Proofs.Ytlcchghlhfamjaa.X.f14_l18 k j18 s0 l1 p2 p3 (IntKind.wrap IntKind.i64 (n4 + n18)) (IntKind.wrap IntKind.i64 (n5 + 1)) L7))))))
  (some (LR.ret (Value.bool false) L)) := by kernel_rfl

/-- slots 1, 2, 5, 7, 9, 11, 13, 14, 15, 17, 19, 21, 22, 23 -/
noncomputable def f15_l16 (k : Nat) (j16 : Nat) (p58 : Option Addr) (p59 : Option Addr) (n60 : Int) (n61 : Int) (n62 : Int) (n63 : Int) (n64 : Int) (l65 : Sl) (n66 : Int) (n67 : Int) (n68 : Int) (n69 : Int) (l70 : Sl) (n71 : Int) (L : LHeap) : R :=
  loopAt Proofs.Try.prog Proofs.Ytlcchghlhfamjaa.X.T 15 k [1, 1, 1, 1, 1, 1, 1, 1, 1, 1, 1, 1, 1, 1, 0, 1, 0] [] j16
  [(1, Value.pointer p58), (2, Value.pointer p59), (5, Value.int IntKind.i64 n60), (7, Value.int IntKind.i64 n61), (9, Value.int IntKind.i64 n62), (11, Value.int IntKind.i64 n63),
    (13, Value.int IntKind.i64 n64), (14, Value.slice l65.a l65.n l65.c), (15, Value.int IntKind.i64 n66), (17, Value.int IntKind.i64 n67), (19, Value.int IntKind.i64 n68),
    (21, Value.int IntKind.i64 n69), (22, Value.slice l70.a l70.n l70.c), (23, Value.int IntKind.i64 n71)]
  L
theorem f15_eq (k : Nat) (L : LHeap) : Proofs.Ytlcchghlhfamjaa.X.f15 (k + 1) L =
  lbind (Proofs.Ytlcchghlhfamjaa.X.f42 k (Sl.mk (some (Addr.mk (List.length L) 0 none)) 2 2) (L ++ [LBlk.cells [Value.int IntKind.i64 1, Value.int IntKind.i64 1] 3 false 0])) fun v0 L1 =>
  obind (tupL v0) fun x2 =>
    uncons x2 fun v3 vs4 =>
      obind (asP v3) fun x5 =>
        uncons vs4 fun v6 vs7 =>
          obind (asI IntKind.i64 v6) fun n8 =>
            nilL vs7
              (lif (n8 != 0) (some (LR.ret (Value.bool false) L1))
                (lbind (Proofs.Ytlcchghlhfamjaa.X.f24 k (ByteArray.mk #[120]) L1) fun v9 L10 =>
                  obind (asP v9) fun x11 =>
                    lbind (Proofs.Ytlcchghlhfamjaa.X.f44 k none x11 L10) fun v12 L13 =>
                      obind (tupL v12) fun x14 =>
                        uncons x14 fun v15 vs16 =>
                          obind (asI IntKind.i64 v15) fun n17 =>
                            uncons vs16 fun v18 vs19 =>
                              obind (asI IntKind.i64 v18) fun n20 =>
                                nilL vs19
                                  (lbind (Proofs.Ytlcchghlhfamjaa.X.f44 k x5 none L13) fun v21 L22 =>
                                    obind (tupL v21) fun x23 =>
                                      uncons x23 fun v24 vs25 =>
                                        obind (asI IntKind.i64 v24) fun n26 =>
                                          uncons vs25 fun v27 vs28 =>
                                            obind (asI IntKind.i64 v27) fun n29 =>
                                              nilL vs28
                                                (lbind
                                                  (Proofs.Ytlcchghlhfamjaa.X.f34 k (Sl.mk (some (Addr.mk (List.length L22) 0 none)) 513 513)
                                                    (L22 ++ [LBlk.cells (List.flatten (List.replicate 513 [Value.int IntKind.i64 0])) 3 false 0]))
                                                  fun v30 L31 =>
                                                  obind (tupL v30) fun x32 =>
                                                    uncons x32 fun v33 vs34 =>
                                                      obind (asSl v33) fun l35 =>
                                                        uncons vs34 fun v36 vs37 =>
                                                          obind (asI IntKind.i64 v36) fun n38 =>
                                                            nilL vs37
                                                              (lbind
                                                                (Proofs.Ytlcchghlhfamjaa.X.f34 k (Sl.mk (some (Addr.mk (List.length L31) 0 none)) 1 1)
                                                                  (L31 ++ [LBlk.cells [Value.int IntKind.i64 (-1)] 3 false 0]))
                                                                fun v39 L40 =>
                                                                obind (tupL v39) fun x41 =>
                                                                  uncons x41 fun v42 vs43 =>
                                                                    obind (asSl v42) fun l44 =>
                                                                      uncons vs43 fun v45 vs46 =>
                                                                        obind (asI IntKind.i64 v45) fun n47 =>
                                                                          nilL vs46
                                                                            (lbind
                                                                              (Proofs.Ytlcchghlhfamjaa.X.f34 k (Sl.mk (some (Addr.mk (List.length L40) 0 none)) 1 1)
                                                                                (L40 ++ [LBlk.cells [Value.int IntKind.i64 1073741825] 3 false 0]))
                                                                              fun v48 L49 =>
                                                                              obind (tupL v48) fun x50 =>
                                                                                uncons x50 fun v51 vs52 =>
                                                                                  obind (asSl v51) fun l53 =>
                                                                                    uncons vs52 fun v54 vs55 =>
                                                                                      obind (asI IntKind.i64 v54) fun n56 =>
                                                                                        nilL vs55
                                                                                          (lbind
                                                                                            (Proofs.Ytlcchghlhfamjaa.X.f34 k (Sl.mk (some (Addr.mk (List.length L49) 0 none)) 3 3)
                                                                                              (L49 ++
                                                                                                [LBlk.cells
                                                                                                    [Value.int IntKind.i64 1073741824, Value.int IntKind.i64 0, Value.int IntKind.i64 1073741824] 3
                                                                                                    false 0]))
                                                                                            fun v57 L58 =>
                                                                                            obind (tupL v57) fun x59 =>
                                                                                              uncons x59 fun v60 vs61 =>
                                                                                                obind (asSl v60) fun l62 =>
                                                                                                  uncons vs61 fun v63 vs64 =>
                                                                                                    obind (asI IntKind.i64 v63) fun n65 =>
                                                                                                      nilL vs64
                                                                                                        (lbind
                                                                                                          (Proofs.Ytlcchghlhfamjaa.X.f39 k (Sl.mk (some (Addr.mk (List.length L58) 0 none)) 2 2)
                                                                                                            (L58 ++ [LBlk.cells [Value.int IntKind.i64 1, Value.int IntKind.i64 2] 3 false 0]))
                                                                                                          fun v66 L67 =>
                                                                                                          obind (tupL v66) fun x68 =>
                                                                                                            uncons x68 fun v69 vs70 =>
                                                                                                              obind (asSl v69) fun l71 =>
                                                                                                                uncons vs70 fun v72 vs73 =>
                                                                                                                  obind (asI IntKind.i64 v72) fun n74 =>
                                                                                                                    nilL vs73
                                                                                                                      (lbind
                                                                                                                        (Proofs.Ytlcchghlhfamjaa.X.f39 k
                                                                                                                          (Sl.mk (some (Addr.mk (List.length L67) 0 none)) 2 2)
                                                                                                                          (L67 ++
                                                                                                                            [LBlk.cells [Value.int IntKind.i64 16, Value.int IntKind.i64 1] 3 false 0]))
                                                                                                                        fun v75 L76 =>
                                                                                                                        obind (tupL v75) fun x77 =>
                                                                                                                          uncons x77 fun v78 vs79 =>
                                                                                                                            obind (asSl v78) fun l80 =>
                                                                                                                              uncons vs79 fun v81 vs82 =>
                                                                                                                                obind (asI IntKind.i64 v81) fun n83 =>
                                                                                                                                  nilL vs82
                                                                                                                                    (lbind
                                                                                                                                      (Proofs.Ytlcchghlhfamjaa.X.f39 k
                                                                                                                                        (Sl.mk (some (Addr.mk (List.length L76) 0 none)) 3 3)
                                                                                                                                        (L76 ++
                                                                                                                                          [LBlk.cells
                                                                                                                                              [Value.int IntKind.i64 1, Value.int IntKind.i64 1,
                                                                                                                                                Value.int IntKind.i64 15]
                                                                                                                                              3 false 0]))
                                                                                                                                      fun v84 L85 =>
                                                                                                                                      obind (tupL v84) fun x86 =>
                                                                                                                                        uncons x86 fun v87 vs88 =>
                                                                                                                                          obind (asSl v87) fun l89 =>
                                                                                                                                            uncons vs88 fun v90 vs91 =>
                                                                                                                                              obind (asI IntKind.i64 v90) fun n92 =>
                                                                                                                                                nilL vs91
                                                                                                                                                  (Proofs.Ytlcchghlhfamjaa.X.f15_l16 k k none x5 n20 n29
                                                                                                                                                    n38 n47 n56 l62 n65 n74 n83 n92
                                                                                                                                                    (Sl.mk (some (Addr.mk (List.length L85) 0 none)) 40
                                                                                                                                                      40)
                                                                                                                                                    0
                                                                                                                                                    (L85 ++
                                                                                                                                                      [LBlk.cells
                                                                                                                                                          [Value.int IntKind.i64 0,
                                                                                                                                                            Value.int IntKind.i64 0,
                                                                                                                                                            Value.int IntKind.i64 0,
                                                                                                                                                            Value.int IntKind.i64 0,
                                                                                                                                                            Value.int IntKind.i64 0,
                                                                                                                                                            Value.int IntKind.i64 0,
                                                                                                                                                            Value.int IntKind.i64 0,
                                                                                                                                                            Value.int IntKind.i64 0,
                                                                                                                                                            Value.int IntKind.i64 0,
                                                                                                                                                            Value.int IntKind.i64 0,
                                                                                                                                                            Value.int IntKind.i64 0,
                                                                                                                                                            Value.int IntKind.i64 0,
                                                                                                                                                            Value.int IntKind.i64 0,
                                                                                                                                                            Value.int IntKind.i64 0,
                                                                                                                                                            Value.int IntKind.i64 0,
                                                                                                                                                            Value.int IntKind.i64 0,
                                                                                                                                                            Value.int IntKind.i64 0,
                                                                                                                                                            Value.int IntKind.i64 0,
                                                                                                                                                            Value.int IntKind.i64 0,
                                                                                                                                                            Value.int IntKind.i64 0,
                                                                                                                                                            Value.int IntKind.i64 0,
                                                                                                                                                            Value.int IntKind.i64 0,
                                                                                                                                                            Value.int IntKind.i64 0,
                                                                                                                                                            Value.int IntKind.i64 0,
                                                                                                                                                            Value.int IntKind.i64 0,
                                                                                                                                                            Value.int IntKind.i64 0,
                                                                                                                                                            Value.int IntKind.i64 0,
                                                                                                                                                            Value.int IntKind.i64 0,
                                                                                                                                                            Value.int IntKind.i64 0,
                                                                                                                                                            Value.int IntKind.i64 0,
                                                                                                                                                            Value.int IntKind.i64 0,
                                                                                                                                                            Value.int IntKind.i64 0,
                                                                                                                                                            Value.int IntKind.i64 0,
                                                                                                                                                            Value.int IntKind.i64 0,
                                                                                                                                                            Value.int IntKind.i64 0,
                                                                                                                                                            Value.int IntKind.i64 0,
                                                                                                                                                            Value.int IntKind.i64 0,
                                                                                                                                                            Value.int IntKind.i64 0,
                                                                                                                                                            Value.int IntKind.i64 0,
                                                                                                                                                            Value.int IntKind.i64 0]
                                                                                                                                                          3 false 0])))))))))))) := by kernel_rfl
theorem f15_l16_eq (k : Nat) (j16 : Nat) (p0 : Option Addr) (p1 : Option Addr) (n2 : Int) (n3 : Int) (n4 : Int) (n5 : Int) (n6 : Int) (l7 : Sl) (n8 : Int) (n9 : Int) (n10 : Int) (n11 : Int) (l12 : Sl) (n13 : Int) (L : LHeap) : Proofs.Ytlcchghlhfamjaa.X.f15_l16 k (j16 + 1) p0 p1 n2 n3 n4 n5 n6 l7 n8 n9 n10 n11 l12 n13 L =
  lif (decide (n13 < (↑l12.n : Int)))
  (when (!decide ((if false = true then if 30 > n13 then 30 else n13 else if 30 < n13 then 30 else n13) < 0))
    (obind (idx l12 n13 1) fun a14 =>
      obind (stores L a14 [Value.int IntKind.i64 (IntKind.wrap IntKind.i64 (1 * 2 ^ min (Int.toNat (if false = true then if 30 > n13 then 30 else n13 else if 30 < n13 then 30 else n13)) 64))])
        fun L15 => Proofs.Ytlcchghlhfamjaa.X.f15_l16 k j16 p0 p1 n2 n3 n4 n5 n6 l7 n8 n9 n10 n11 l12 (IntKind.wrap IntKind.i64 (n13 + 1)) L15))
  (lbind (Proofs.Ytlcchghlhfamjaa.X.f34 k l12 L) fun v16 L17 =>
    obind (tupL v16) fun x18 =>
      uncons x18 fun v19 vs20 =>
        obind (asSl v19) fun l21 =>
          uncons vs20 fun v22 vs23 =>
            obind (asI IntKind.i64 v22) fun n24 =>
              nilL vs23
                (lbind (Proofs.Ytlcchghlhfamjaa.X.f45 k p0 (some (Addr.mk (List.length L17) 0 none)) 0 (L17 ++ [LBlk.cells [Value.slice none 0 0, Value.int IntKind.i64 0] 26 false 0])) fun v25 L26 =>
                  obind (asI IntKind.i64 v25) fun n27 =>
                    lif (n27 == 2)
                      (lif (n2 == 2)
                        (lif (n3 == 2)
                          (lbind (Proofs.Ytlcchghlhfamjaa.X.f45 k p1 none 0 L26) fun v28 L29 =>
                            obind (asI IntKind.i64 v28) fun n30 =>
                              lif (n30 == 2)
                                (lbind (Proofs.Ytlcchghlhfamjaa.X.f45 k p1 (some (Addr.mk (List.length L29) 0 none)) 2 (L29 ++ [LBlk.cells [Value.slice none 0 0, Value.int IntKind.i64 0] 26 false 0]))
                                  fun v31 L32 =>
                                  obind (asI IntKind.i64 v31) fun n33 =>
                                    lif (n33 == 1)
                                      (lbind
                                        (Proofs.Ytlcchghlhfamjaa.X.f45 k p1 (some (Addr.mk (List.length L32) 0 none)) (-1)
                                          (L32 ++ [LBlk.cells [Value.slice none 0 0, Value.int IntKind.i64 0] 26 false 0]))
                                        fun v34 L35 =>
                                        obind (asI IntKind.i64 v34) fun n36 =>
                                          lif (n36 == 1)
                                            (lif (n4 == 1)
                                              (lif (n5 == 1)
                                                (lif (n6 == 1)
                                                  (lif (n8 == 0)
                                                    (lbind
                                                      (Proofs.Ytlcchghlhfamjaa.X.f36 k l7 (Sl.mk (some (Addr.mk (List.length L35) 0 none)) 3 3)
                                                        (L35 ++ [LBlk.cells [Value.int IntKind.i64 1, Value.int IntKind.i64 0, Value.int IntKind.i64 1] 3 false 0]))
                                                      fun v37 L38 =>
                                                      obind (asB v37) fun b39 =>
                                                        lif b39
                                                          (lif (n9 == 4)
                                                            (lif (n10 == 4)
                                                              (lif (n11 == 4)
                                                                (lif (n24 == 0)
                                                                  (lbind (Proofs.Ytlcchghlhfamjaa.X.f37 k l21 L38) fun v40 L41 =>
                                                                    obind (asB v40) fun b42 =>
                                                                      lif b42
                                                                        (lbind (Proofs.Ytlcchghlhfamjaa.X.f37 k (Sl.mk none 0 0) L41) fun v43 L44 =>
                                                                          obind (asB v43) fun b45 =>
                                                                            lif b45
                                                                              (lbind
                                                                                (Proofs.Ytlcchghlhfamjaa.X.f37 k (Sl.mk (some (Addr.mk (List.length L44) 0 none)) 2 2)
                                                                                  (L44 ++ [LBlk.cells [Value.int IntKind.i64 0, Value.int IntKind.i64 0] 3 false 0]))
                                                                                fun v46 L47 =>
                                                                                obind (asB v46) fun b48 =>
                                                                                  lif b48
                                                                                    (lbind
                                                                                      (Proofs.Ytlcchghlhfamjaa.X.f37 k (Sl.mk (some (Addr.mk (List.length L47) 0 none)) 1 1)
                                                                                        (L47 ++ [LBlk.cells [Value.int IntKind.i64 2] 3 false 0]))
                                                                                      fun v49 L50 =>
                                                                                      obind (asB v49) fun b51 =>
                                                                                        lif (!b51)
                                                                                          (lbind
                                                                                            (Proofs.Ytlcchghlhfamjaa.X.f37 k (Sl.mk (some (Addr.mk (List.length L50) 0 none)) 513 513)
                                                                                              (L50 ++ [LBlk.cells (List.flatten (List.replicate 513 [Value.int IntKind.i64 0])) 3 false 0]))
                                                                                            fun v52 L53 =>
                                                                                            obind (asB v52) fun b54 =>
                                                                                              lif (!b54)
                                                                                                (lbind (Proofs.Ytlcchghlhfamjaa.X.f33 k L53) fun v55 L56 =>
                                                                                                  obind (asB v55) fun b57 => some (LR.ret (Value.bool b57) L56))
                                                                                                (some (LR.ret (Value.bool false) L53)))
                                                                                          (some (LR.ret (Value.bool false) L50)))
                                                                                    (some (LR.ret (Value.bool false) L47)))
                                                                              (some (LR.ret (Value.bool false) L44)))
                                                                        (some (LR.ret (Value.bool false) L41)))
                                                                  (some (LR.ret (Value.bool false) L38)))
                                                                (some (LR.ret (Value.bool false) L38)))
                                                              (some (LR.ret (Value.bool false) L38)))
                                                            (some (LR.ret (Value.bool false) L38)))
                                                          (some (LR.ret (Value.bool false) L38)))
                                                    (some (LR.ret (Value.bool false) L35)))
                                                  (some (LR.ret (Value.bool false) L35)))
                                                (some (LR.ret (Value.bool false) L35)))
                                              (some (LR.ret (Value.bool false) L35)))
                                            (some (LR.ret (Value.bool false) L35)))
                                      (some (LR.ret (Value.bool false) L32)))
                                (some (LR.ret (Value.bool false) L29)))
                          (some (LR.ret (Value.bool false) L26)))
                        (some (LR.ret (Value.bool false) L26)))
                      (some (LR.ret (Value.bool false) L26)))) := by kernel_rfl

/-- slots 1, 5, 7, 8, 9, 10 -/
noncomputable def f16_l12 (k : Nat) (j12 : Nat) (l15 : Sl) (l16 : Sl) (p17 : Option Addr) (r18 : Nat) (l19 : Sl) (n20 : Int) (L : LHeap) : R :=
  loopAt Proofs.Try.prog Proofs.Ytlcchghlhfamjaa.X.T 16 k [1, 1, 1, 1, 1, 1, 1, 1, 0, 1, 0] [] j12
  [(1, Value.slice l15.a l15.n l15.c), (5, Value.slice l16.a l16.n l16.c), (7, Value.pointer p17), (8, Value.pointer (some (Addr.mk r18 0 none))), (9, Value.slice l19.a l19.n l19.c),
    (10, Value.int IntKind.i64 n20)]
  L
/-- slots 7, 9, 13, 14 -/
noncomputable def f16_l22 (k : Nat) (j22 : Nat) (p21 : Option Addr) (l22 : Sl) (p23 : Option Addr) (n24 : Int) (L : LHeap) : R :=
  loopAt Proofs.Try.prog Proofs.Ytlcchghlhfamjaa.X.T 16 k [1, 1, 1, 1, 1, 1, 1, 1, 1, 1, 0, 1, 0] [] j22
  [(7, Value.pointer p21), (9, Value.slice l22.a l22.n l22.c), (13, Value.pointer p23), (14, Value.int IntKind.i64 n24)] L
theorem f16_eq (k : Nat) (l0 : Sl) (l1 : Sl) (L : LHeap) : Proofs.Ytlcchghlhfamjaa.X.f16 (k + 1) l0 l1 L =
  lif (decide ((↑l0.n : Int) > 300)) (lbind (Proofs.Ytlcchghlhfamjaa.X.f33 k L) fun v2 L3 => obind (asB v2) fun b4 => some (LR.ret (Value.bool b4) L3))
  (lif (decide ((↑l1.n : Int) > 300)) (lbind (Proofs.Ytlcchghlhfamjaa.X.f33 k L) fun v5 L6 => obind (asB v5) fun b7 => some (LR.ret (Value.bool b7) L6))
    (lbind (Proofs.Ytlcchghlhfamjaa.X.f33 k L) fun v8 L9 =>
      obind (asB v8) fun b10 =>
        lif (!b10) (lbind (Proofs.Ytlcchghlhfamjaa.X.f33 k L9) fun v11 L12 => obind (asB v11) fun b13 => some (LR.ret (Value.bool b13) L12))
          (lbind (Proofs.Ytlcchghlhfamjaa.X.f34 k l0 L9) fun v14 L15 =>
            obind (tupL v14) fun x16 =>
              uncons x16 fun v17 vs18 =>
                obind (asSl v17) fun l19 =>
                  uncons vs18 fun v20 vs21 =>
                    obind (asI IntKind.i64 v20) fun n22 =>
                      nilL vs21
                        (lif (n22 != 0) (some (LR.ret (Value.bool true) L15))
                          (lbind (Proofs.Ytlcchghlhfamjaa.X.f42 k l19 L15) fun v23 L24 =>
                            obind (tupL v23) fun x25 =>
                              uncons x25 fun v26 vs27 =>
                                obind (asP v26) fun x28 =>
                                  uncons vs27 fun v29 vs30 =>
                                    obind (asI IntKind.i64 v29) fun n31 =>
                                      nilL vs30
                                        (lif (n31 != 0) (some (LR.ret (Value.bool false) L24))
                                          (Proofs.Ytlcchghlhfamjaa.X.f16_l12 k k l1 l19 x28 (List.length L24) (Sl.mk none 0 0) 0
                                            (L24 ++ [LBlk.cells [Value.slice none 0 0, Value.int IntKind.i64 0] 26 false 0])))))))) := by kernel_rfl
theorem f16_l12_eq (k : Nat) (j12 : Nat) (l0 : Sl) (l1 : Sl) (p2 : Option Addr) (r3 : Nat) (l4 : Sl) (n5 : Int) (L : LHeap) : Proofs.Ytlcchghlhfamjaa.X.f16_l12 k (j12 + 1) l0 l1 p2 r3 l4 n5 L =
  lif (decide (n5 < (↑l0.n : Int)))
  (lif (decide ((↑l1.n : Int) > 0))
    (obind (idx l0 n5 1) fun a6 =>
      obind (Option.bind (cell L a6) (asI IntKind.i64)) fun n7 =>
        when (!decide (IntKind.wrap IntKind.u64 (↑l1.n : Int) = 0))
          (lbind (Proofs.Ytlcchghlhfamjaa.X.f45 k p2 (some (Addr.mk r3 0 none)) (IntKind.wrap IntKind.i64 (Int.tmod (IntKind.wrap IntKind.u64 n7) (IntKind.wrap IntKind.u64 (↑l1.n : Int)))) L)
            fun v8 L9 =>
            obind (asI IntKind.i64 v8) fun n10 =>
              obind (idx l1 (IntKind.wrap IntKind.i64 (Int.tmod (IntKind.wrap IntKind.u64 n7) (IntKind.wrap IntKind.u64 (↑l1.n : Int)))) 1) fun a11 =>
                obind (Option.bind (cell L9 a11) (asI IntKind.i64)) fun n12 =>
                  lif (!(n10 == 0) == decide (n12 > 0)) (some (LR.ret (Value.bool false) L9))
                    (lif (n10 == 0)
                      (obind
                        (srcOf (L9 ++ [LBlk.cells [Value.int IntKind.i64 (IntKind.wrap IntKind.i64 (Int.tmod (IntKind.wrap IntKind.u64 n7) (IntKind.wrap IntKind.u64 (↑l1.n : Int))))] 3 false 0])
                          Proofs.Try.prog.types[3].size 1 (Value.slice (some (Addr.mk (List.length L9) 0 none)) 1 1))
                        fun x13 =>
                        obind
                          (app (L9 ++ [LBlk.cells [Value.int IntKind.i64 (IntKind.wrap IntKind.i64 (Int.tmod (IntKind.wrap IntKind.u64 n7) (IntKind.wrap IntKind.u64 (↑l1.n : Int))))] 3 false 0]) 3
                            Proofs.Try.prog.types[3].size Proofs.Try.prog.types[3].bytes l4 1 x13)
                          fun x14 => Proofs.Ytlcchghlhfamjaa.X.f16_l12 k j12 l0 l1 p2 r3 x14.fst (IntKind.wrap IntKind.i64 (n5 + 1)) x14.snd)
                      (Proofs.Ytlcchghlhfamjaa.X.f16_l12 k j12 l0 l1 p2 r3 l4 (IntKind.wrap IntKind.i64 (n5 + 1)) L9))))
    (lbind (Proofs.Ytlcchghlhfamjaa.X.f22 k (some (Addr.mk r3 0 none)) L) fun v15 L16 =>
      obind (asS v15) fun s17 => lbind (Proofs.Ytlcchghlhfamjaa.X.f24 k s17 L16) fun v18 L19 => obind (asP v18) fun x20 => Proofs.Ytlcchghlhfamjaa.X.f16_l22 k k p2 l4 x20 0 L19))
  (lbind (Proofs.Ytlcchghlhfamjaa.X.f22 k (some (Addr.mk r3 0 none)) L) fun v21 L22 =>
    obind (asS v21) fun s23 => lbind (Proofs.Ytlcchghlhfamjaa.X.f24 k s23 L22) fun v24 L25 => obind (asP v24) fun x26 => Proofs.Ytlcchghlhfamjaa.X.f16_l22 k k p2 l4 x26 0 L25) := by kernel_rfl
theorem f16_l22_eq (k : Nat) (j22 : Nat) (p0 : Option Addr) (l1 : Sl) (p2 : Option Addr) (n3 : Int) (L : LHeap) : Proofs.Ytlcchghlhfamjaa.X.f16_l22 k (j22 + 1) p0 l1 p2 n3 L =
  lif (decide (n3 < (↑l1.n : Int)))
  (lbind (Proofs.Ytlcchghlhfamjaa.X.f44 k p0 p2 L) fun v4 L5 =>
    obind (tupL v4) fun x6 =>
      uncons x6 fun v7 vs8 =>
        obind (asI IntKind.i64 v7) fun n9 =>
          uncons vs8 fun v10 vs11 =>
            obind (asI IntKind.i64 v10) fun n12 =>
              nilL vs11
                (lif (n12 != 0) (some (LR.ret (Value.bool false) L5))
                  (obind (idx l1 n3 1) fun a13 =>
                    obind (Option.bind (cell L5 a13) (asI IntKind.i64)) fun n14 =>
                      lif (n9 != n14) (some (LR.ret (Value.bool false) L5)) (Proofs.Ytlcchghlhfamjaa.X.f16_l22 k j22 p0 l1 p2 (IntKind.wrap IntKind.i64 (n3 + 1)) L5))))
  (some (LR.ret (Value.bool true) L)) := by kernel_rfl

/-- slots 0, 1, 2, 7, 9, 11, 12, 13 -/
noncomputable def f17_l12 (k : Nat) (j12 : Nat) (l42 : Sl) (l43 : Sl) (s44 : ByteArray) (p45 : Option Addr) (l46 : Sl) (r47 : Nat) (s48 : ByteArray) (n49 : Int) (L : LHeap) : R :=
  loopAt Proofs.Try.prog Proofs.Ytlcchghlhfamjaa.X.T 17 k [1, 1, 1, 1, 1, 1, 1, 1, 0, 1, 0] [] j12
  [(0, Value.slice l42.a l42.n l42.c), (1, Value.slice l43.a l43.n l43.c), (2, Value.string s44), (7, Value.pointer p45), (9, Value.slice l46.a l46.n l46.c),
    (11, Value.pointer (some (Addr.mk r47 0 none))), (12, Value.string s48), (13, Value.int IntKind.i64 n49)]
  L
/-- slots 0, 7, 17, 18, 19, 20 -/
noncomputable def f17_l27 (k : Nat) (j27 : Nat) (l50 : Sl) (p51 : Option Addr) (p52 : Option Addr) (s53 : ByteArray) (n54 : Int) (n55 : Int) (L : LHeap) : R :=
  loopAt Proofs.Try.prog Proofs.Ytlcchghlhfamjaa.X.T 17 k [1, 1, 1, 1, 1, 1, 1, 1, 1, 1, 1, 1, 1, 1, 0, 1, 0] [] j27
  [(0, Value.slice l50.a l50.n l50.c), (7, Value.pointer p51), (17, Value.pointer p52), (18, Value.string s53), (19, Value.int IntKind.i64 n54), (20, Value.int IntKind.i64 n55)] L
theorem f17_eq (k : Nat) (l0 : Sl) (l1 : Sl) (s2 : ByteArray) (L : LHeap) : Proofs.Ytlcchghlhfamjaa.X.f17 (k + 1) l0 l1 s2 L =
  lif (decide ((↑l0.n : Int) > 100)) (lbind (Proofs.Ytlcchghlhfamjaa.X.f33 k L) fun v3 L4 => obind (asB v3) fun b5 => some (LR.ret (Value.bool b5) L4))
  (lif (decide ((↑l1.n : Int) > 60)) (lbind (Proofs.Ytlcchghlhfamjaa.X.f33 k L) fun v6 L7 => obind (asB v6) fun b8 => some (LR.ret (Value.bool b8) L7))
    (lif (decide ((↑(ByteArray.size s2) : Int) > 60)) (lbind (Proofs.Ytlcchghlhfamjaa.X.f33 k L) fun v9 L10 => obind (asB v9) fun b11 => some (LR.ret (Value.bool b11) L10))
      (lbind (Proofs.Ytlcchghlhfamjaa.X.f42 k l0 L) fun v12 L13 =>
        obind (tupL v12) fun x14 =>
          uncons x14 fun v15 vs16 =>
            obind (asP v15) fun x17 =>
              uncons vs16 fun v18 vs19 =>
                obind (asI IntKind.i64 v18) fun n20 =>
                  nilL vs19
                    (lbind (Proofs.Ytlcchghlhfamjaa.X.f41 k l0 L13) fun v21 L22 =>
                      obind (tupL v21) fun x23 =>
                        uncons x23 fun v24 vs25 =>
                          obind (asSl v24) fun l26 =>
                            uncons vs25 fun v27 vs28 =>
                              obind (asI IntKind.i64 v27) fun n29 =>
                                nilL vs28
                                  (lif (n20 != n29) (some (LR.ret (Value.bool false) L22))
                                    (lif (n20 != 0)
                                      (lif (Option.isNone x17) (lbind (Proofs.Ytlcchghlhfamjaa.X.f33 k L22) fun v30 L31 => obind (asB v30) fun b32 => some (LR.ret (Value.bool b32) L31))
                                        (some (LR.ret (Value.bool false) L22)))
                                      (Proofs.Ytlcchghlhfamjaa.X.f17_l12 k k l0 l1 s2 x17 l26 (List.length L22) (ByteArray.mk #[]) 0
                                        (L22 ++ [LBlk.cells [Value.slice none 0 0, Value.int IntKind.i64 0] 26 false 0])))))))) := by kernel_rfl
theorem f17_l12_eq (k : Nat) (j12 : Nat) (l0 : Sl) (l1 : Sl) (s2 : ByteArray) (p3 : Option Addr) (l4 : Sl) (r5 : Nat) (s6 : ByteArray) (n7 : Int) (L : LHeap) : Proofs.Ytlcchghlhfamjaa.X.f17_l12 k (j12 + 1) l0 l1 s2 p3 l4 r5 s6 n7 L =
  lif (decide (n7 < (↑l1.n : Int)))
  (obind (idx l1 n7 1) fun a8 =>
    obind (Option.bind (cell L a8) (asI IntKind.i64)) fun n9 =>
      lif (decide (n9 ≥ 0))
        (lif (decide (n9 < (↑l0.n : Int)))
          (obind (idx l0 n9 1) fun a10 =>
            obind (Option.bind (cell L a10) (asI IntKind.i64)) fun n11 =>
              lbind (Proofs.Ytlcchghlhfamjaa.X.f45 k p3 (some (Addr.mk r5 0 none)) n9 L) fun v12 L13 =>
                obind (asI IntKind.i64 v12) fun n14 =>
                  lif (!(n14 == 0) == decide (n11 > 0)) (some (LR.ret (Value.bool false) L13))
                    (lif (decide (n11 > 0))
                      (obind (idx l4 n9 1) fun a15 =>
                        obind (Option.bind (cell L13 a15) (asI IntKind.u32)) fun n16 =>
                          obind (idx l0 n9 1) fun a17 =>
                            obind (Option.bind (cell L13 a17) (asI IntKind.i64)) fun n18 =>
                              lbindR (Proofs.Ytlcchghlhfamjaa.X.f40 k n16 n18 L13) fun v19 L20 =>
                                obind (asS v19) fun s21 =>
                                  when (decide ((↑(ByteArray.size s6 + ByteArray.size s21) : Int) ≤ maxI))
                                    (Proofs.Ytlcchghlhfamjaa.X.f17_l12 k j12 l0 l1 s2 p3 l4 r5 (s6 ++ s21) (IntKind.wrap IntKind.i64 (n7 + 1)) L20))
                      (Proofs.Ytlcchghlhfamjaa.X.f17_l12 k j12 l0 l1 s2 p3 l4 r5 s6 (IntKind.wrap IntKind.i64 (n7 + 1)) L13)))
          (lbind (Proofs.Ytlcchghlhfamjaa.X.f45 k p3 (some (Addr.mk r5 0 none)) n9 L) fun v22 L23 =>
            obind (asI IntKind.i64 v22) fun n24 =>
              lif (!(n24 == 0) == false) (some (LR.ret (Value.bool false) L23)) (Proofs.Ytlcchghlhfamjaa.X.f17_l12 k j12 l0 l1 s2 p3 l4 r5 s6 (IntKind.wrap IntKind.i64 (n7 + 1)) L23)))
        (lbind (Proofs.Ytlcchghlhfamjaa.X.f45 k p3 (some (Addr.mk r5 0 none)) n9 L) fun v25 L26 =>
          obind (asI IntKind.i64 v25) fun n27 =>
            lif (!(n27 == 0) == false) (some (LR.ret (Value.bool false) L26)) (Proofs.Ytlcchghlhfamjaa.X.f17_l12 k j12 l0 l1 s2 p3 l4 r5 s6 (IntKind.wrap IntKind.i64 (n7 + 1)) L26)))
  (lbind (Proofs.Ytlcchghlhfamjaa.X.f22 k (some (Addr.mk r5 0 none)) L) fun v28 L29 =>
    obind (asS v28) fun s30 =>
      lbind (Proofs.Ytlcchghlhfamjaa.X.f46 k s30 L29) fun v31 L32 =>
        obind (asS v31) fun s33 =>
          lbind (Proofs.Ytlcchghlhfamjaa.X.f20 k (some (Addr.mk r5 0 none)) L32) fun v34 L35 =>
            obind (asI IntKind.i64 v34) fun n36 =>
              lif (n36 != (↑(ByteArray.size s6) : Int)) (some (LR.ret (Value.bool false) L35))
                (lif (decide ((↑(ByteArray.size s33) : Int) < (↑(ByteArray.size s6) : Int))) (some (LR.ret (Value.bool false) L35))
                  (obind (subS s33 none (some (↑(ByteArray.size s6) : Int))) fun s37 =>
                    lif (!ByteArray.toList s37 == ByteArray.toList s6) (some (LR.ret (Value.bool false) L35))
                      (lbind (Proofs.Ytlcchghlhfamjaa.X.f24 k s2 L35) fun v38 L39 =>
                        obind (asP v38) fun x40 =>
                          lbind (Proofs.Ytlcchghlhfamjaa.X.f46 k s2 L39) fun v41 L42 => obind (asS v41) fun s43 => Proofs.Ytlcchghlhfamjaa.X.f17_l27 k k l0 p3 x40 s43 0 0 L42)))) := by kernel_rfl
theorem f17_l27_eq (k : Nat) (j27 : Nat) (l0 : Sl) (p1 : Option Addr) (p2 : Option Addr) (s3 : ByteArray) (n4 : Int) (n5 : Int) (L : LHeap) : Proofs.Ytlcchghlhfamjaa.X.f17_l27 k (j27 + 1) l0 p1 p2 s3 n4 n5 L =
  lif (decide (n5 < 600))
  (lbind (Proofs.Ytlcchghlhfamjaa.X.f44 k p1 p2 L) fun v6 L7 =>
    obind (tupL v6) fun x8 =>
      uncons x8 fun v9 vs10 =>
        obind (asI IntKind.i64 v9) fun n11 =>
          uncons vs10 fun v12 vs13 =>
            obind (asI IntKind.i64 v12) fun n14 =>
              nilL vs13
                (lbind (Proofs.Ytlcchghlhfamjaa.X.f47 k l0 s3 n4 L7) fun v15 L16 =>
                  obind (tupL v15) fun x17 =>
                    uncons x17 fun v18 vs19 =>
                      obind (asI IntKind.i64 v18) fun n20 =>
                        uncons vs19 fun v21 vs22 =>
                          obind (asI IntKind.i64 v21) fun n23 =>
                            uncons vs22 fun v24 vs25 =>
                              obind (asB v24) fun b26 =>
                                nilL vs25
                                  (lif (!(n14 == 0) == b26) (some (LR.ret (Value.bool false) L16))
                                    (lif b26
                                      (lif (n11 != n20) (some (LR.ret (Value.bool false) L16))
                                        (lif (!b26)
                                          (lif (n14 != 4) (some (LR.ret (Value.bool false) L16))
                                            (lif (!b26) (lbind (Proofs.Ytlcchghlhfamjaa.X.f33 k L16) fun v27 L28 => obind (asB v27) fun b29 => some (LR.ret (Value.bool b29) L28))
                                              (Proofs.Ytlcchghlhfamjaa.X.f17_l27 k j27 l0 p1 p2 s3 n23 (IntKind.wrap IntKind.i64 (n5 + 1)) L16)))
                                          (lif (!b26) (lbind (Proofs.Ytlcchghlhfamjaa.X.f33 k L16) fun v30 L31 => obind (asB v30) fun b32 => some (LR.ret (Value.bool b32) L31))
                                            (Proofs.Ytlcchghlhfamjaa.X.f17_l27 k j27 l0 p1 p2 s3 n23 (IntKind.wrap IntKind.i64 (n5 + 1)) L16))))
                                      (lif (!b26)
                                        (lif (n14 != 4) (some (LR.ret (Value.bool false) L16))
                                          (lif (!b26) (lbind (Proofs.Ytlcchghlhfamjaa.X.f33 k L16) fun v33 L34 => obind (asB v33) fun b35 => some (LR.ret (Value.bool b35) L34))
                                            (Proofs.Ytlcchghlhfamjaa.X.f17_l27 k j27 l0 p1 p2 s3 n23 (IntKind.wrap IntKind.i64 (n5 + 1)) L16)))
                                        (lif (!b26) (lbind (Proofs.Ytlcchghlhfamjaa.X.f33 k L16) fun v36 L37 => obind (asB v36) fun b38 => some (LR.ret (Value.bool b38) L37))
                                          (Proofs.Ytlcchghlhfamjaa.X.f17_l27 k j27 l0 p1 p2 s3 n23 (IntKind.wrap IntKind.i64 (n5 + 1)) L16)))))))
  (lbind (Proofs.Ytlcchghlhfamjaa.X.f33 k L) fun v39 L40 => obind (asB v39) fun b41 => some (LR.ret (Value.bool b41) L40)) := by kernel_rfl

theorem f33_eq (k : Nat) (L : LHeap) : Proofs.Ytlcchghlhfamjaa.X.f33 (k + 1) L =
  lbind (Proofs.Ytlcchghlhfamjaa.X.f34 k (Sl.mk (some (Addr.mk (List.length L) 0 none)) 3 3) (L ++ [LBlk.cells [Value.int IntKind.i64 1, Value.int IntKind.i64 1, Value.int IntKind.i64 2] 3 false 0]))
  fun v0 L1 =>
  obind (tupL v0) fun x2 =>
    uncons x2 fun v3 vs4 =>
      obind (asSl v3) fun l5 =>
        uncons vs4 fun v6 vs7 =>
          obind (asI IntKind.i64 v6) fun n8 =>
            nilL vs7
              (lbind
                (Proofs.Ytlcchghlhfamjaa.X.f34 k (Sl.mk (some (Addr.mk (List.length L1) 0 none)) 3 3)
                  (L1 ++ [LBlk.cells [Value.int IntKind.i64 0, Value.int IntKind.i64 7, Value.int IntKind.i64 0] 3 false 0]))
                fun v9 L10 =>
                obind (tupL v9) fun x11 =>
                  uncons x11 fun v12 vs13 =>
                    obind (asSl v12) fun l14 =>
                      uncons vs13 fun v15 vs16 =>
                        obind (asI IntKind.i64 v15) fun n17 =>
                          nilL vs16
                            (lbind
                              (Proofs.Ytlcchghlhfamjaa.X.f39 k (Sl.mk (some (Addr.mk (List.length L10) 0 none)) 3 3)
                                (L10 ++ [LBlk.cells [Value.int IntKind.i64 2, Value.int IntKind.i64 2, Value.int IntKind.i64 1] 3 false 0]))
                              fun v18 L19 =>
                              obind (tupL v18) fun x20 =>
                                uncons x20 fun v21 vs22 =>
                                  obind (asSl v21) fun l23 =>
                                    uncons vs22 fun v24 vs25 =>
                                      obind (asI IntKind.i64 v24) fun n26 =>
                                        nilL vs25
                                          (lif (n8 == 0)
                                            (lbind
                                              (Proofs.Ytlcchghlhfamjaa.X.f36 k l5 (Sl.mk (some (Addr.mk (List.length L19) 0 none)) 3 3)
                                                (L19 ++ [LBlk.cells [Value.int IntKind.i64 2, Value.int IntKind.i64 2, Value.int IntKind.i64 1] 3 false 0]))
                                              fun v27 L28 =>
                                              obind (asB v27) fun b29 =>
                                                lif b29
                                                  (lif (n17 == 0)
                                                    (lbind
                                                      (Proofs.Ytlcchghlhfamjaa.X.f36 k l14 (Sl.mk (some (Addr.mk (List.length L28) 0 none)) 3 3)
                                                        (L28 ++ [LBlk.cells [Value.int IntKind.i64 0, Value.int IntKind.i64 1, Value.int IntKind.i64 0] 3 false 0]))
                                                      fun v30 L31 =>
                                                      obind (asB v30) fun b32 =>
                                                        lif b32
                                                          (lif (n26 == 0)
                                                            (lif ((↑l23.n : Int) == 3)
                                                              (obind (idx l23 0 1) fun a33 =>
                                                                obind (Option.bind (cell L31 a33) (asI IntKind.u32)) fun n34 =>
                                                                  lif (n34 == 2)
                                                                    (obind (idx l23 1 1) fun a35 =>
                                                                      obind (Option.bind (cell L31 a35) (asI IntKind.u32)) fun n36 =>
                                                                        lif (n36 == 3)
                                                                          (obind (idx l23 2 1) fun a37 =>
                                                                            obind (Option.bind (cell L31 a37) (asI IntKind.u32)) fun n38 =>
                                                                              lif (n38 == 0)
                                                                                (lbind
                                                                                  (Proofs.Ytlcchghlhfamjaa.X.f37 k (Sl.mk (some (Addr.mk (List.length L31) 0 none)) 2 2)
                                                                                    (L31 ++ [LBlk.cells [Value.int IntKind.i64 1, Value.int IntKind.i64 2] 3 false 0]))
                                                                                  fun v39 L40 =>
                                                                                  obind (asB v39) fun b41 =>
                                                                                    lif (!b41)
                                                                                      (lbind
                                                                                        (Proofs.Ytlcchghlhfamjaa.X.f37 k (Sl.mk (some (Addr.mk (List.length L40) 0 none)) 2 2)
                                                                                          (L40 ++ [LBlk.cells [Value.int IntKind.i64 1, Value.int IntKind.i64 1] 3 false 0]))
                                                                                        fun v42 L43 => obind (asB v42) fun b44 => some (LR.ret (Value.bool b44) L43))
                                                                                      (some (LR.ret (Value.bool false) L40)))
                                                                                (some (LR.ret (Value.bool false) L31)))
                                                                          (some (LR.ret (Value.bool false) L31)))
                                                                    (some (LR.ret (Value.bool false) L31)))
                                                              (some (LR.ret (Value.bool false) L31)))
                                                            (some (LR.ret (Value.bool false) L31)))
                                                          (some (LR.ret (Value.bool false) L31)))
                                                    (some (LR.ret (Value.bool false) L28)))
                                                  (some (LR.ret (Value.bool false) L28)))
                                            (some (LR.ret (Value.bool false) L19))))) := by kernel_rfl

/-- slots 4 -/
noncomputable def f34_l4 (k : Nat) (j4 : Nat) (l8 : Sl) (L : LHeap) : R :=
  loopAt Proofs.Try.prog Proofs.Ytlcchghlhfamjaa.X.T 34 k [1, 1, 1, 0] [] j4 [(4, Value.slice l8.a l8.n l8.c)] L
/-- slots 4, 28, 29 -/
noncomputable def f34_l8 (k : Nat) (j4_9 : Nat) (j8 : Nat) (l10 : Sl) (n11 : Int) (n12 : Int) (L : LHeap) : R :=
  loopAt Proofs.Try.prog Proofs.Ytlcchghlhfamjaa.X.T 34 k [1, 1, 1, 0, 0, 0, 1, 1, 1, 0] [j4_9] j8 [(4, Value.slice l10.a l10.n l10.c), (28, Value.int IntKind.i64 n11), (29, Value.int IntKind.i64 n12)]
  L
theorem f34_eq (k : Nat) (l0 : Sl) (L : LHeap) : Proofs.Ytlcchghlhfamjaa.X.f34 (k + 1) l0 L =
  lif (decide ((↑l0.n : Int) > 512)) (some (LR.ret (Value.tuple #[Value.slice none 0 0, Value.int IntKind.i64 1]) L))
  (lbind (Proofs.Ytlcchghlhfamjaa.X.f49 k l0 (Value.func (Fn.func 50) #[] #[]) L) fun v1 L2 =>
    obind (asB v1) fun b3 =>
      lif b3 (some (LR.ret (Value.tuple #[Value.slice none 0 0, Value.int IntKind.i64 1]) L2))
        (lbind (Proofs.Ytlcchghlhfamjaa.X.f51 k l0 L2) fun v4 L5 => obind (asSl v4) fun l6 => Proofs.Ytlcchghlhfamjaa.X.f34_l4 k k l6 L5)) := by kernel_rfl
theorem f34_l4_eq (k : Nat) (j4 : Nat) (l0 : Sl) (L : LHeap) : Proofs.Ytlcchghlhfamjaa.X.f34_l4 k (j4 + 1) l0 L =
  lbind (Proofs.Ytlcchghlhfamjaa.X.f52 k l0 L) fun v1 L2 =>
  obind (asSl v1) fun l3 =>
    lif ((↑l3.n : Int) == 0) (some (LR.ret (Value.tuple #[Value.slice l3.a l3.n l3.c, Value.int IntKind.i64 0]) L2))
      (lbind (Proofs.Ytlcchghlhfamjaa.X.f53 k l3 L2) fun v4 L5 =>
        obind (asI IntKind.i64 v4) fun n6 =>
          lif (decide (n6 ≤ 15)) (some (LR.ret (Value.tuple #[Value.slice l3.a l3.n l3.c, Value.int IntKind.i64 0]) L5)) (Proofs.Ytlcchghlhfamjaa.X.f34_l8 k j4 k l0 (↑l0.n : Int) 0 L5)) := by kernel_rfl
theorem f34_l8_eq (k : Nat) (j4_0 : Nat) (j8 : Nat) (l1 : Sl) (n2 : Int) (n3 : Int) (L : LHeap) : Proofs.Ytlcchghlhfamjaa.X.f34_l8 k j4_0 (j8 + 1) l1 n2 n3 L =
  lif (decide (n3 < n2))
  (obind (idx l1 n3 1) fun a4 =>
    obind (Option.bind (cell L a4) (asI IntKind.i64)) fun n5 =>
      obind (idx l1 n3 1) fun a6 =>
        obind (stores L a6 [Value.int IntKind.i64 (IntKind.wrap IntKind.i64 (Int.tdiv (IntKind.wrap IntKind.i64 (n5 + 1)) 2))]) fun L7 =>
          Proofs.Ytlcchghlhfamjaa.X.f34_l8 k j4_0 j8 l1 n2 (IntKind.wrap IntKind.i64 (n3 + 1)) L7)
  (Proofs.Ytlcchghlhfamjaa.X.f34_l4 k j4_0 l1 L) := by kernel_rfl

/-- slots 0, 5 -/
noncomputable def f35_l4 (k : Nat) (j4 : Nat) (l9 : Sl) (n10 : Int) (L : LHeap) : R :=
  loopAt Proofs.Try.prog Proofs.Ytlcchghlhfamjaa.X.T 35 k [1, 1, 0, 1, 0] [] j4 [(0, Value.slice l9.a l9.n l9.c), (5, Value.int IntKind.i64 n10)] L
/-- slots 6, 7, 8 -/
noncomputable def f35_l11 (k : Nat) (j11 : Nat) (l11 : Sl) (b12 : Bool) (n13 : Int) (L : LHeap) : R :=
  loopAt Proofs.Try.prog Proofs.Ytlcchghlhfamjaa.X.T 35 k [1, 1, 1, 1, 1, 0, 1, 0] [] j11 [(6, Value.slice l11.a l11.n l11.c), (7, Value.bool b12), (8, Value.int IntKind.i64 n13)] L
/-- slots 6, 7, 8, 9, 10, 11 -/
noncomputable def f35_l16 (k : Nat) (j11_14 : Nat) (j16 : Nat) (l15 : Sl) (b16 : Bool) (n17 : Int) (l18 : Sl) (b19 : Bool) (n20 : Int) (L : LHeap) : R :=
  loopAt Proofs.Try.prog Proofs.Ytlcchghlhfamjaa.X.T 35 k [1, 1, 1, 1, 1, 0, 1, 0, 0, 1, 0, 0, 1, 1, 0, 1, 0] [j11_14] j16
  [(6, Value.slice l15.a l15.n l15.c), (7, Value.bool b16), (8, Value.int IntKind.i64 n17), (9, Value.slice l18.a l18.n l18.c), (10, Value.bool b19), (11, Value.int IntKind.i64 n20)] L
/-- slots 6, 7, 8, 12 -/
noncomputable def f35_l23 (k : Nat) (j11_21 : Nat) (j23 : Nat) (l22 : Sl) (b23 : Bool) (n24 : Int) (n25 : Int) (L : LHeap) : R :=
  loopAt Proofs.Try.prog Proofs.Ytlcchghlhfamjaa.X.T 35 k [1, 1, 1, 1, 1, 0, 1, 0, 0, 1, 0, 0, 1, 1, 1, 1, 1, 1, 0] [j11_21] j23
  [(6, Value.slice l22.a l22.n l22.c), (7, Value.bool b23), (8, Value.int IntKind.i64 n24), (12, Value.int IntKind.i64 n25)] L
theorem f35_eq (k : Nat) (l0 : Sl) (L : LHeap) : Proofs.Ytlcchghlhfamjaa.X.f35 (k + 1) l0 L =
  lif (decide ((↑l0.n : Int) > 512)) (some (LR.ret (Value.tuple #[Value.slice none 0 0, Value.bool false, Value.int IntKind.i64 1]) L)) (Proofs.Ytlcchghlhfamjaa.X.f35_l4 k k l0 0 L) := by kernel_rfl
theorem f35_l4_eq (k : Nat) (j4 : Nat) (l0 : Sl) (n1 : Int) (L : LHeap) : Proofs.Ytlcchghlhfamjaa.X.f35_l4 k (j4 + 1) l0 n1 L =
  lif (decide (n1 < (↑l0.n : Int)))
  (obind (idx l0 n1 1) fun a2 =>
    obind (Option.bind (cell L a2) (asI IntKind.i64)) fun n3 =>
      lif (decide (n3 < 0)) (some (LR.ret (Value.tuple #[Value.slice none 0 0, Value.bool false, Value.int IntKind.i64 1]) L))
        (obind (idx l0 n1 1) fun a4 =>
          obind (Option.bind (cell L a4) (asI IntKind.i64)) fun n5 =>
            lif (decide (n5 > 1073741824)) (some (LR.ret (Value.tuple #[Value.slice none 0 0, Value.bool false, Value.int IntKind.i64 1]) L))
              (Proofs.Ytlcchghlhfamjaa.X.f35_l4 k j4 l0 (IntKind.wrap IntKind.i64 (n1 + 1)) L)))
  (obind (srcOf (L ++ [LBlk.cells [] 3 false 0]) Proofs.Try.prog.types[3].size l0.n (Value.slice l0.a l0.n l0.c)) fun x6 =>
    obind (app (L ++ [LBlk.cells [] 3 false 0]) 3 Proofs.Try.prog.types[3].size Proofs.Try.prog.types[3].bytes (Sl.mk (some (Addr.mk (List.length L) 0 none)) 0 0) l0.n x6) fun x7 =>
      Proofs.Ytlcchghlhfamjaa.X.f35_l11 k k x7.fst false 0 x7.snd) := by kernel_rfl
theorem f35_l11_eq (k : Nat) (j11 : Nat) (l0 : Sl) (b1 : Bool) (n2 : Int) (L : LHeap) : Proofs.Ytlcchghlhfamjaa.X.f35_l11 k (j11 + 1) l0 b1 n2 L =
  lif (decide (n2 < 40)) (lbind (Proofs.Ytlcchghlhfamjaa.X.f54 k l0 L) fun v3 L4 => obind (asSl v3) fun l5 => Proofs.Ytlcchghlhfamjaa.X.f35_l16 k j11 k l0 b1 n2 l5 true 0 L4)
  (some (LR.ret (Value.tuple #[Value.slice none 0 0, Value.bool b1, Value.int IntKind.i64 1]) L)) := by kernel_rfl
theorem f35_l16_eq (k : Nat) (j11_0 : Nat) (j16 : Nat) (l1 : Sl) (b2 : Bool) (n3 : Int) (l4 : Sl) (b5 : Bool) (n6 : Int) (L : LHeap) : Proofs.Ytlcchghlhfamjaa.X.f35_l16 k j11_0 (j16 + 1) l1 b2 n3 l4 b5 n6 L =
  lif (decide (n6 < (↑l4.n : Int)))
  (lif b5
    (obind (idx l4 n6 1) fun a7 =>
      obind (Option.bind (cell L a7) (asI IntKind.i64)) fun n8 => Proofs.Ytlcchghlhfamjaa.X.f35_l16 k j11_0 j16 l1 b2 n3 l4 (decide (n8 ≤ 15)) (IntKind.wrap IntKind.i64 (n6 + 1)) L)
    (Proofs.Ytlcchghlhfamjaa.X.f35_l16 k j11_0 j16 l1 b2 n3 l4 false (IntKind.wrap IntKind.i64 (n6 + 1)) L))
  (lif b5 (some (LR.ret (Value.tuple #[Value.slice l4.a l4.n l4.c, Value.bool b2, Value.int IntKind.i64 0]) L)) (Proofs.Ytlcchghlhfamjaa.X.f35_l23 k j11_0 k l1 true n3 0 L)) := by kernel_rfl
theorem f35_l23_eq (k : Nat) (j11_0 : Nat) (j23 : Nat) (l1 : Sl) (b2 : Bool) (n3 : Int) (n4 : Int) (L : LHeap) : Proofs.Ytlcchghlhfamjaa.X.f35_l23 k j11_0 (j23 + 1) l1 b2 n3 n4 L =
  lif (decide (n4 < (↑l1.n : Int)))
  (obind (idx l1 n4 1) fun a5 =>
    obind (Option.bind (cell L a5) (asI IntKind.i64)) fun n6 =>
      obind (idx l1 n4 1) fun a7 =>
        obind (stores L a7 [Value.int IntKind.i64 (IntKind.wrap IntKind.i64 (Int.tdiv (IntKind.wrap IntKind.i64 (n6 + 1)) 2))]) fun L8 =>
          Proofs.Ytlcchghlhfamjaa.X.f35_l23 k j11_0 j23 l1 b2 n3 (IntKind.wrap IntKind.i64 (n4 + 1)) L8)
  (Proofs.Ytlcchghlhfamjaa.X.f35_l11 k j11_0 l1 b2 (IntKind.wrap IntKind.i64 (n3 + 1)) L) := by kernel_rfl

/-- slots 0, 1, 5 -/
noncomputable def f36_l4 (k : Nat) (j4 : Nat) (l7 : Sl) (l8 : Sl) (n9 : Int) (L : LHeap) : R :=
  loopAt Proofs.Try.prog Proofs.Ytlcchghlhfamjaa.X.T 36 k [1, 1, 0, 1, 0] [] j4 [(0, Value.slice l7.a l7.n l7.c), (1, Value.slice l8.a l8.n l8.c), (5, Value.int IntKind.i64 n9)] L
theorem f36_eq (k : Nat) (l0 : Sl) (l1 : Sl) (L : LHeap) : Proofs.Ytlcchghlhfamjaa.X.f36 (k + 1) l0 l1 L =
  lif ((↑l0.n : Int) != (↑l1.n : Int)) (some (LR.ret (Value.bool false) L)) (Proofs.Ytlcchghlhfamjaa.X.f36_l4 k k l0 l1 0 L) := by kernel_rfl
theorem f36_l4_eq (k : Nat) (j4 : Nat) (l0 : Sl) (l1 : Sl) (n2 : Int) (L : LHeap) : Proofs.Ytlcchghlhfamjaa.X.f36_l4 k (j4 + 1) l0 l1 n2 L =
  lif (decide (n2 < (↑l0.n : Int)))
  (obind (idx l0 n2 1) fun a3 =>
    obind (Option.bind (cell L a3) (asI IntKind.i64)) fun n4 =>
      obind (idx l1 n2 1) fun a5 =>
        obind (Option.bind (cell L a5) (asI IntKind.i64)) fun n6 =>
          lif (n4 != n6) (some (LR.ret (Value.bool false) L)) (Proofs.Ytlcchghlhfamjaa.X.f36_l4 k j4 l0 l1 (IntKind.wrap IntKind.i64 (n2 + 1)) L))
  (some (LR.ret (Value.bool true) L)) := by kernel_rfl

/-- slots 3, 5, 6, 7 -/
noncomputable def f37_l6 (k : Nat) (j6 : Nat) (r6 : Nat) (n7 : Int) (n8 : Int) (n9 : Int) (L : LHeap) : R :=
  loopAt Proofs.Try.prog Proofs.Ytlcchghlhfamjaa.X.T 37 k [1, 1, 1, 1, 0, 1, 0] [] j6
  [(3, Value.pointer (some (Addr.mk r6 0 none))), (5, Value.int IntKind.i64 n7), (6, Value.int IntKind.i64 n8), (7, Value.int IntKind.i64 n9)] L
theorem f37_eq (k : Nat) (l0 : Sl) (L : LHeap) : Proofs.Ytlcchghlhfamjaa.X.f37 (k + 1) l0 L =
  lbind (Proofs.Ytlcchghlhfamjaa.X.f55 k l0 L) fun v1 L2 =>
  obind (tupL v1) fun x3 =>
    uncons x3 fun v4 vs5 =>
      obind (Rlm.asAgg v4) fun x6 =>
        uncons vs5 fun v7 vs8 =>
          obind (asB v7) fun b9 =>
            nilL vs8
              (when (Nat.beq (List.length x6.toList) 16)
                (obind
                  (stores
                    (L2 ++
                      [LBlk.cells
                          [Value.int IntKind.i64 0, Value.int IntKind.i64 0, Value.int IntKind.i64 0, Value.int IntKind.i64 0, Value.int IntKind.i64 0, Value.int IntKind.i64 0,
                            Value.int IntKind.i64 0, Value.int IntKind.i64 0, Value.int IntKind.i64 0, Value.int IntKind.i64 0, Value.int IntKind.i64 0, Value.int IntKind.i64 0,
                            Value.int IntKind.i64 0, Value.int IntKind.i64 0, Value.int IntKind.i64 0, Value.int IntKind.i64 0]
                          84 false 0])
                    (Addr.mk (List.length L2) 0 none) x6.toList)
                  fun L10 =>
                  lif (!b9) (some (LR.ret (Value.bool false) L10))
                    (lif (decide ((↑l0.n : Int) > 512)) (some (LR.ret (Value.bool false) L10)) (Proofs.Ytlcchghlhfamjaa.X.f37_l6 k k (List.length L2) 0 0 1 L10)))) := by kernel_rfl
theorem f37_l6_eq (k : Nat) (j6 : Nat) (r0 : Nat) (n1 : Int) (n2 : Int) (n3 : Int) (L : LHeap) : Proofs.Ytlcchghlhfamjaa.X.f37_l6 k (j6 + 1) r0 n1 n2 n3 L =
  lif (decide (n3 < 16))
  (when (decide (0 ≤ n3))
    (when (decide (n3 < 16))
      (obind (Option.bind (cell L (Addr.add (Addr.mk r0 0 none) (Int.toNat n3 * 1))) (asI IntKind.i64)) fun n4 =>
        when (!decide (IntKind.wrap IntKind.i64 (15 - n3) < 0))
          (when (decide (0 ≤ n3))
            (when (decide (n3 < 16))
              (obind (Option.bind (cell L (Addr.add (Addr.mk r0 0 none) (Int.toNat n3 * 1))) (asI IntKind.i64)) fun n5 =>
                Proofs.Ytlcchghlhfamjaa.X.f37_l6 k j6 r0 (IntKind.wrap IntKind.i64 (n1 + IntKind.wrap IntKind.i64 (n4 * 2 ^ min (Int.toNat (IntKind.wrap IntKind.i64 (15 - n3))) 64)))
                  (IntKind.wrap IntKind.i64 (n2 + n5)) (IntKind.wrap IntKind.i64 (n3 + 1)) L))))))
  (lif (n1 == 0) (some (LR.ret (Value.bool true) L))
    (lif (n1 == 32768) (some (LR.ret (Value.bool true) L)) (lif (n2 == 1) (some (LR.ret (Value.bool (n1 == 16384)) L)) (some (LR.ret (Value.bool false) L))))) := by kernel_rfl

/-- slots 0, 4, 5, 6 -/
noncomputable def f38_l3 (k : Nat) (j3 : Nat) (l12 : Sl) (n13 : Int) (n14 : Int) (n15 : Int) (L : LHeap) : R :=
  loopAt Proofs.Try.prog Proofs.Ytlcchghlhfamjaa.X.T 38 k [1, 1, 0, 1, 0] [] j3
  [(0, Value.slice l12.a l12.n l12.c), (4, Value.int IntKind.i64 n13), (5, Value.int IntKind.i64 n14), (6, Value.int IntKind.i64 n15)] L
theorem f38_eq (k : Nat) (l0 : Sl) (L : LHeap) : Proofs.Ytlcchghlhfamjaa.X.f38 (k + 1) l0 L =
  Proofs.Ytlcchghlhfamjaa.X.f38_l3 k k l0 0 0 0 L := by kernel_rfl
theorem f38_l3_eq (k : Nat) (j3 : Nat) (l0 : Sl) (n1 : Int) (n2 : Int) (n3 : Int) (L : LHeap) : Proofs.Ytlcchghlhfamjaa.X.f38_l3 k (j3 + 1) l0 n1 n2 n3 L =
  lif (decide (n3 < (↑l0.n : Int)))
  (obind (idx l0 n3 1) fun a4 =>
    obind (Option.bind (cell L a4) (asI IntKind.i64)) fun n5 =>
      lif (decide (n5 < 0)) (some (LR.ret (Value.tuple #[Value.int IntKind.i64 (-1), Value.int IntKind.i64 0]) L))
        (obind (idx l0 n3 1) fun a6 =>
          obind (Option.bind (cell L a6) (asI IntKind.i64)) fun n7 =>
            lif (decide (n7 > 15)) (some (LR.ret (Value.tuple #[Value.int IntKind.i64 (-1), Value.int IntKind.i64 0]) L))
              (obind (idx l0 n3 1) fun a8 =>
                obind (Option.bind (cell L a8) (asI IntKind.i64)) fun n9 =>
                  lif (decide (n9 > 0))
                    (obind (idx l0 n3 1) fun a10 =>
                      obind (Option.bind (cell L a10) (asI IntKind.i64)) fun n11 =>
                        when (!decide (IntKind.wrap IntKind.i64 (15 - n11) < 0))
                          (Proofs.Ytlcchghlhfamjaa.X.f38_l3 k j3 l0 (IntKind.wrap IntKind.i64 (n1 + IntKind.wrap IntKind.i64 (1 * 2 ^ min (Int.toNat (IntKind.wrap IntKind.i64 (15 - n11))) 64)))
                            (IntKind.wrap IntKind.i64 (n2 + 1)) (IntKind.wrap IntKind.i64 (n3 + 1)) L))
                    (Proofs.Ytlcchghlhfamjaa.X.f38_l3 k j3 l0 n1 n2 (IntKind.wrap IntKind.i64 (n3 + 1)) L))))
  (some (LR.ret (Value.tuple #[Value.int IntKind.i64 n1, Value.int IntKind.i64 n2]) L)) := by kernel_rfl

/-- slots 6, 7, 23, 24, 25 -/
noncomputable def f39_l7 (k : Nat) (j7 : Nat) (r12 : Nat) (l13 : Sl) (l14 : Sl) (n15 : Int) (n16 : Int) (L : LHeap) : R :=
  loopAt Proofs.Try.prog Proofs.Ytlcchghlhfamjaa.X.T 39 k [1, 1, 1, 1, 1, 0, 1, 0] [] j7
  [(6, Value.pointer (some (Addr.mk r12 0 none))), (7, Value.slice l13.a l13.n l13.c), (23, Value.slice l14.a l14.n l14.c), (24, Value.int IntKind.i64 n15), (25, Value.int IntKind.i64 n16)] L
theorem f39_eq (k : Nat) (l0 : Sl) (L : LHeap) : Proofs.Ytlcchghlhfamjaa.X.f39 (k + 1) l0 L =
  lbind (Proofs.Ytlcchghlhfamjaa.X.f37 k l0 L) fun v1 L2 =>
  obind (asB v1) fun b3 =>
    lif (!b3) (some (LR.ret (Value.tuple #[Value.slice none 0 0, Value.int IntKind.i64 4]) L2))
      (lbind (Proofs.Ytlcchghlhfamjaa.X.f55 k l0 L2) fun v4 L5 =>
        obind (tupL v4) fun x6 =>
          uncons x6 fun v7 vs8 =>
            obind (Rlm.asAgg v7) fun x9 =>
              uncons vs8 fun v10 vs11 =>
                obind (asB v10) fun b12 =>
                  nilL vs11
                    (when (Nat.beq (List.length x9.toList) 16)
                      (obind
                        (stores
                          (L5 ++
                            [LBlk.cells
                                [Value.int IntKind.i64 0, Value.int IntKind.i64 0, Value.int IntKind.i64 0, Value.int IntKind.i64 0, Value.int IntKind.i64 0, Value.int IntKind.i64 0,
                                  Value.int IntKind.i64 0, Value.int IntKind.i64 0, Value.int IntKind.i64 0, Value.int IntKind.i64 0, Value.int IntKind.i64 0, Value.int IntKind.i64 0,
                                  Value.int IntKind.i64 0, Value.int IntKind.i64 0, Value.int IntKind.i64 0, Value.int IntKind.i64 0]
                                84 false 0])
                          (Addr.mk (List.length L5) 0 none) x9.toList)
                        fun L13 =>
                        obind (cellsAt L13 (Addr.mk (List.length L5) 0 none) 16) fun x14 =>
                          lbind (Proofs.Ytlcchghlhfamjaa.X.f56 k (List.toArray x14) L13) fun v15 L16 =>
                            obind (Rlm.asAgg v15) fun x17 =>
                              when (Nat.beq (List.length x17.toList) 16)
                                (obind
                                  (stores
                                    (L16 ++
                                      [LBlk.cells
                                          [Value.int IntKind.u32 0, Value.int IntKind.u32 0, Value.int IntKind.u32 0, Value.int IntKind.u32 0, Value.int IntKind.u32 0, Value.int IntKind.u32 0,
                                            Value.int IntKind.u32 0, Value.int IntKind.u32 0, Value.int IntKind.u32 0, Value.int IntKind.u32 0, Value.int IntKind.u32 0, Value.int IntKind.u32 0,
                                            Value.int IntKind.u32 0, Value.int IntKind.u32 0, Value.int IntKind.u32 0, Value.int IntKind.u32 0]
                                          87 false 0])
                                    (Addr.mk (List.length L16) 0 none) x17.toList)
                                  fun L18 =>
                                  when (room (↑l0.n : Int) (↑l0.n : Int) Proofs.Try.prog.types[32].bytes)
                                    (Proofs.Ytlcchghlhfamjaa.X.f39_l7 k k (List.length L16) (Sl.mk (some (Addr.mk (List.length L18) 0 none)) (Int.toNat (↑l0.n : Int)) (Int.toNat (↑l0.n : Int))) l0
                                      (↑l0.n : Int) 0 (L18 ++ [LBlk.cells (List.flatten (List.replicate (Int.toNat (↑l0.n : Int)) [Value.int IntKind.u32 0])) 32 false 0])))))) := by kernel_rfl
theorem f39_l7_eq (k : Nat) (j7 : Nat) (r0 : Nat) (l1 : Sl) (l2 : Sl) (n3 : Int) (n4 : Int) (L : LHeap) : Proofs.Ytlcchghlhfamjaa.X.f39_l7 k (j7 + 1) r0 l1 l2 n3 n4 L =
  lif (decide (n4 < n3))
  (obind (idx l2 n4 1) fun a5 =>
    obind (Option.bind (cell L a5) (asI IntKind.i64)) fun n6 =>
      lif (decide (n6 > 0))
        (when (decide (0 ≤ n6))
          (when (decide (n6 < 16))
            (obind (Option.bind (cell L (Addr.add (Addr.mk r0 0 none) (Int.toNat n6 * 1))) (asI IntKind.u32)) fun n7 =>
              obind (idx l1 n4 1) fun a8 =>
                obind (stores L a8 [Value.int IntKind.u32 n7]) fun L9 =>
                  when (decide (0 ≤ n6))
                    (when (decide (n6 < 16))
                      (obind (Option.bind (cell L9 (Addr.add (Addr.mk r0 0 none) (Int.toNat n6 * 1))) (asI IntKind.u32)) fun n10 =>
                        when (decide (0 ≤ n6))
                          (when (decide (n6 < 16))
                            (obind (stores L9 (Addr.add (Addr.mk r0 0 none) (Int.toNat n6 * 1)) [Value.int IntKind.u32 (IntKind.wrap IntKind.u32 (n10 + 1))]) fun L11 =>
                              Proofs.Ytlcchghlhfamjaa.X.f39_l7 k j7 r0 l1 l2 n3 (IntKind.wrap IntKind.i64 (n4 + 1)) L11)))))))
        (Proofs.Ytlcchghlhfamjaa.X.f39_l7 k j7 r0 l1 l2 n3 (IntKind.wrap IntKind.i64 (n4 + 1)) L))
  (some (LR.ret (Value.tuple #[Value.slice l1.a l1.n l1.c, Value.int IntKind.i64 0]) L)) := by kernel_rfl

/-- slots 0, 5, 6 -/
noncomputable def f40_l3 (k : Nat) (j3 : Nat) (n3 : Int) (s4 : ByteArray) (n5 : Int) (L : LHeap) : R :=
  loopAt Proofs.Try.prog Proofs.Ytlcchghlhfamjaa.X.T 40 k [1, 1, 0, 1, 0] [] j3 [(0, Value.int IntKind.u32 n3), (5, Value.string s4), (6, Value.int IntKind.i64 n5)] L
theorem f40_eq (k : Nat) (n0 : Int) (n1 : Int) (L : LHeap) : Proofs.Ytlcchghlhfamjaa.X.f40 (k + 1) n0 n1 L =
  Proofs.Ytlcchghlhfamjaa.X.f40_l3 k k n0 (ByteArray.mk #[]) (IntKind.wrap IntKind.i64 (n1 - 1)) L := by kernel_rfl
theorem f40_l3_eq (k : Nat) (j3 : Nat) (n0 : Int) (s1 : ByteArray) (n2 : Int) (L : LHeap) : Proofs.Ytlcchghlhfamjaa.X.f40_l3 k (j3 + 1) n0 s1 n2 L =
  lif (decide (n2 ≥ 0))
  (when (!decide (n2 < 0))
    (lif (bitop BinOp.and IntKind.u32 (Int.fdiv n0 (2 ^ min (Int.toNat n2) 32)) 1 == 1)
      (when (decide ((↑(ByteArray.size s1 + ByteArray.size (ByteArray.mk #[49])) : Int) ≤ maxI))
        (Proofs.Ytlcchghlhfamjaa.X.f40_l3 k j3 n0 (s1 ++ ByteArray.mk #[49]) (IntKind.wrap IntKind.i64 (n2 - 1)) L))
      (when (decide ((↑(ByteArray.size s1 + ByteArray.size (ByteArray.mk #[48])) : Int) ≤ maxI))
        (Proofs.Ytlcchghlhfamjaa.X.f40_l3 k j3 n0 (s1 ++ ByteArray.mk #[48]) (IntKind.wrap IntKind.i64 (n2 - 1)) L))))
  (some (LR.ret (Value.string s1) L)) := by kernel_rfl

/-- slots 0, 4, 5, 6 -/
noncomputable def f41_l6 (k : Nat) (j6 : Nat) (l10 : Sl) (l11 : Sl) (n12 : Int) (n13 : Int) (L : LHeap) : R :=
  loopAt Proofs.Try.prog Proofs.Ytlcchghlhfamjaa.X.T 41 k [1, 1, 1, 1, 0, 1, 0] [] j6
  [(0, Value.slice l10.a l10.n l10.c), (4, Value.slice l11.a l11.n l11.c), (5, Value.int IntKind.u32 n12), (6, Value.int IntKind.i64 n13)] L
/-- slots 0, 4, 5, 6, 7 -/
noncomputable def f41_l9 (k : Nat) (j6_14 : Nat) (j9 : Nat) (l15 : Sl) (l16 : Sl) (n17 : Int) (n18 : Int) (n19 : Int) (L : LHeap) : R :=
  loopAt Proofs.Try.prog Proofs.Ytlcchghlhfamjaa.X.T 41 k [1, 1, 1, 1, 0, 1, 0, 0, 1, 0, 0, 0, 1, 0] [j6_14] j9
  [(0, Value.slice l15.a l15.n l15.c), (4, Value.slice l16.a l16.n l16.c), (5, Value.int IntKind.u32 n17), (6, Value.int IntKind.i64 n18), (7, Value.int IntKind.i64 n19)] L
theorem f41_eq (k : Nat) (l0 : Sl) (L : LHeap) : Proofs.Ytlcchghlhfamjaa.X.f41 (k + 1) l0 L =
  lbind (Proofs.Ytlcchghlhfamjaa.X.f43 k l0 L) fun v1 L2 =>
  obind (asB v1) fun b3 =>
    lif (!b3) (some (LR.ret (Value.tuple #[Value.slice none 0 0, Value.int IntKind.i64 4]) L2))
      (when (room (↑l0.n : Int) (↑l0.n : Int) Proofs.Try.prog.types[32].bytes)
        (Proofs.Ytlcchghlhfamjaa.X.f41_l6 k k l0 (Sl.mk (some (Addr.mk (List.length L2) 0 none)) (Int.toNat (↑l0.n : Int)) (Int.toNat (↑l0.n : Int))) 0 1
          (L2 ++ [LBlk.cells (List.flatten (List.replicate (Int.toNat (↑l0.n : Int)) [Value.int IntKind.u32 0])) 32 false 0]))) := by kernel_rfl
theorem f41_l6_eq (k : Nat) (j6 : Nat) (l0 : Sl) (l1 : Sl) (n2 : Int) (n3 : Int) (L : LHeap) : Proofs.Ytlcchghlhfamjaa.X.f41_l6 k (j6 + 1) l0 l1 n2 n3 L =
  lif (decide (n3 ≤ 15)) (Proofs.Ytlcchghlhfamjaa.X.f41_l9 k j6 k l0 l1 n2 n3 0 L) (some (LR.ret (Value.tuple #[Value.slice l1.a l1.n l1.c, Value.int IntKind.i64 0]) L)) := by kernel_rfl
theorem f41_l9_eq (k : Nat) (j6_0 : Nat) (j9 : Nat) (l1 : Sl) (l2 : Sl) (n3 : Int) (n4 : Int) (n5 : Int) (L : LHeap) : Proofs.Ytlcchghlhfamjaa.X.f41_l9 k j6_0 (j9 + 1) l1 l2 n3 n4 n5 L =
  lif (decide (n5 < (↑l1.n : Int)))
  (obind (idx l1 n5 1) fun a6 =>
    obind (Option.bind (cell L a6) (asI IntKind.i64)) fun n7 =>
      lif (n7 == n4)
        (obind (idx l2 n5 1) fun a8 =>
          obind (stores L a8 [Value.int IntKind.u32 n3]) fun L9 => Proofs.Ytlcchghlhfamjaa.X.f41_l9 k j6_0 j9 l1 l2 (IntKind.wrap IntKind.u32 (n3 + 1)) n4 (IntKind.wrap IntKind.i64 (n5 + 1)) L9)
        (Proofs.Ytlcchghlhfamjaa.X.f41_l9 k j6_0 j9 l1 l2 n3 n4 (IntKind.wrap IntKind.i64 (n5 + 1)) L))
  (Proofs.Ytlcchghlhfamjaa.X.f41_l6 k j6_0 l1 l2 (IntKind.wrap IntKind.u32 (n3 * 2)) (IntKind.wrap IntKind.i64 (n4 + 1)) L) := by kernel_rfl

/-- slots 8, 31, 32, 33 -/
noncomputable def f42_l7 (k : Nat) (j7 : Nat) (r11 : Nat) (l12 : Sl) (n13 : Int) (n14 : Int) (L : LHeap) : R :=
  loopAt Proofs.Try.prog Proofs.Ytlcchghlhfamjaa.X.T 42 k [1, 1, 1, 1, 1, 0, 1, 0] [] j7
  [(8, Value.pointer (some (Addr.mk r11 0 none))), (31, Value.slice l12.a l12.n l12.c), (32, Value.int IntKind.i64 n13), (33, Value.int IntKind.i64 n14)] L
theorem f42_eq (k : Nat) (l0 : Sl) (L : LHeap) : Proofs.Ytlcchghlhfamjaa.X.f42 (k + 1) l0 L =
  lbind (Proofs.Ytlcchghlhfamjaa.X.f39 k l0 L) fun v1 L2 =>
  obind (tupL v1) fun x3 =>
    uncons x3 fun v4 vs5 =>
      obind (asSl v4) fun l6 =>
        uncons vs5 fun v7 vs8 =>
          obind (asI IntKind.i64 v7) fun n9 =>
            nilL vs8
              (lif (n9 != 0) (some (LR.ret (Value.tuple #[Value.pointer none, Value.int IntKind.i64 n9]) L2))
                (lbind (Proofs.Ytlcchghlhfamjaa.X.f55 k l0 L2) fun v10 L11 =>
                  obind (tupL v10) fun x12 =>
                    uncons x12 fun v13 vs14 =>
                      obind (Rlm.asAgg v13) fun x15 =>
                        uncons vs14 fun v16 vs17 =>
                          obind (asB v16) fun b18 =>
                            nilL vs17
                              (when (Nat.beq (List.length x15.toList) 16)
                                (obind
                                  (stores
                                    (L11 ++
                                      [LBlk.cells
                                          [Value.int IntKind.i64 0, Value.int IntKind.i64 0, Value.int IntKind.i64 0, Value.int IntKind.i64 0, Value.int IntKind.i64 0, Value.int IntKind.i64 0,
                                            Value.int IntKind.i64 0, Value.int IntKind.i64 0, Value.int IntKind.i64 0, Value.int IntKind.i64 0, Value.int IntKind.i64 0, Value.int IntKind.i64 0,
                                            Value.int IntKind.i64 0, Value.int IntKind.i64 0, Value.int IntKind.i64 0, Value.int IntKind.i64 0]
                                          84 false 0])
                                    (Addr.mk (List.length L11) 0 none) x15.toList)
                                  fun L19 =>
                                  lbindR (Proofs.Ytlcchghlhfamjaa.X.f51 k l0 L19) fun v20 L21 =>
                                    obind (asSl v20) fun l22 =>
                                      obind (cellsAt L21 (Addr.mk (List.length L11) 0 none) 16) fun x23 =>
                                        obind (cellsAt L19 (Addr.mk (List.length L11) 0 none) 16) fun x24 =>
                                          when (same (Value.agg (List.toArray x23)) (Value.agg (List.toArray x24)))
                                            (lbindR (Proofs.Ytlcchghlhfamjaa.X.f56 k (List.toArray x23) L21) fun v25 L26 =>
                                              obind (Rlm.asAgg v25) fun x27 =>
                                                when
                                                  (Nat.beq (List.length x27.toList)
                                                    (Program.cellsOf Proofs.Try.prog
                                                      #[Field.mk "lengths" 38 0 false "" "hamper/huff" 0, Field.mk "codes" 60 1 false "" "hamper/huff" 24,
                                                            Field.mk "first" 87 2 false "" "hamper/huff" 48, Field.mk "symbols" 89 18 false "" "hamper/huff" 112][2].type))
                                                  (Proofs.Ytlcchghlhfamjaa.X.f42_l7 k k (List.length L26) l0 (↑l0.n : Int) 0
                                                    (L26 ++
                                                      [LBlk.cells
                                                          (setAll
                                                            [Value.slice l22.a l22.n l22.c, Value.slice l6.a l6.n l6.c, Value.int IntKind.u32 0, Value.int IntKind.u32 0, Value.int IntKind.u32 0,
                                                              Value.int IntKind.u32 0, Value.int IntKind.u32 0, Value.int IntKind.u32 0, Value.int IntKind.u32 0, Value.int IntKind.u32 0,
                                                              Value.int IntKind.u32 0, Value.int IntKind.u32 0, Value.int IntKind.u32 0, Value.int IntKind.u32 0, Value.int IntKind.u32 0,
                                                              Value.int IntKind.u32 0, Value.int IntKind.u32 0, Value.int IntKind.u32 0, Value.slice none 0 0, Value.slice none 0 0,
                                                              Value.slice none 0 0, Value.slice none 0 0, Value.slice none 0 0, Value.slice none 0 0, Value.slice none 0 0, Value.slice none 0 0,
                                                              Value.slice none 0 0, Value.slice none 0 0, Value.slice none 0 0, Value.slice none 0 0, Value.slice none 0 0, Value.slice none 0 0,
                                                              Value.slice none 0 0, Value.slice none 0 0]
                                                            2 x27.toList)
                                                          91 false 0]))))))) := by kernel_rfl
theorem f42_l7_eq (k : Nat) (j7 : Nat) (r0 : Nat) (l1 : Sl) (n2 : Int) (n3 : Int) (L : LHeap) : Proofs.Ytlcchghlhfamjaa.X.f42_l7 k (j7 + 1) r0 l1 n2 n3 L =
  lif (decide (n3 < n2))
  (obind (idx l1 n3 1) fun a4 =>
    obind (Option.bind (cell L a4) (asI IntKind.i64)) fun n5 =>
      when (decide (0 ≤ n5))
        (when (decide (n5 < 16))
          (obind (Option.bind (cell L (Addr.add (Addr.add (Addr.mk r0 0 none) 18) (Int.toNat n5 * 1))) asSl) fun l6 =>
            obind (Option.bind (cell (L ++ [LBlk.cells [Value.int IntKind.i64 n3] 3 false 0]) (Addr.add (Addr.add (Addr.mk r0 0 none) 18) (Int.toNat n5 * 1))) asSl) fun l7 =>
              when (same (Value.slice l6.a l6.n l6.c) (Value.slice l7.a l7.n l7.c))
                (obind (srcOf (L ++ [LBlk.cells [Value.int IntKind.i64 n3] 3 false 0]) Proofs.Try.prog.types[3].size 1 (Value.slice (some (Addr.mk (List.length L) 0 none)) 1 1)) fun x8 =>
                  obind (app (L ++ [LBlk.cells [Value.int IntKind.i64 n3] 3 false 0]) 3 Proofs.Try.prog.types[3].size Proofs.Try.prog.types[3].bytes l6 1 x8) fun x9 =>
                    when (decide (0 ≤ n5))
                      (when (decide (n5 < 16))
                        (obind (stores x9.snd (Addr.add (Addr.add (Addr.mk r0 0 none) 18) (Int.toNat n5 * 1)) [Value.slice x9.fst.a x9.fst.n x9.fst.c]) fun L10 =>
                          Proofs.Ytlcchghlhfamjaa.X.f42_l7 k j7 r0 l1 n2 (IntKind.wrap IntKind.i64 (n3 + 1)) L10))))))
  (some (LR.ret (Value.tuple #[Value.pointer (some (Addr.mk r0 0 none)), Value.int IntKind.i64 0]) L)) := by kernel_rfl

theorem f43_eq (k : Nat) (l0 : Sl) (L : LHeap) : Proofs.Ytlcchghlhfamjaa.X.f43 (k + 1) l0 L =
  lif (decide ((↑l0.n : Int) > 512)) (some (LR.ret (Value.bool false) L))
  (lbind (Proofs.Ytlcchghlhfamjaa.X.f38 k l0 L) fun v1 L2 =>
    obind (tupL v1) fun x3 =>
      uncons x3 fun v4 vs5 =>
        obind (asI IntKind.i64 v4) fun n6 =>
          uncons vs5 fun v7 vs8 =>
            obind (asI IntKind.i64 v7) fun n9 =>
              nilL vs8
                (lif (n6 == 0) (some (LR.ret (Value.bool true) L2))
                  (lif (n9 == 1) (lif (n6 == 16384) (some (LR.ret (Value.bool true) L2)) (some (LR.ret (Value.bool (n6 == 32768)) L2))) (some (LR.ret (Value.bool (n6 == 32768)) L2))))) := by kernel_rfl

/-- slots 0, 1, 6, 7 -/
noncomputable def f44_l5 (k : Nat) (j5 : Nat) (p21 : Option Addr) (p22 : Option Addr) (n23 : Int) (n24 : Int) (L : LHeap) : R :=
  loopAt Proofs.Try.prog Proofs.Ytlcchghlhfamjaa.X.T 44 k [1, 1, 1, 0, 1, 0] [] j5 [(0, Value.pointer p21), (1, Value.pointer p22), (6, Value.int IntKind.u32 n23), (7, Value.int IntKind.i64 n24)] L
theorem f44_eq (k : Nat) (p0 : Option Addr) (p1 : Option Addr) (L : LHeap) : Proofs.Ytlcchghlhfamjaa.X.f44 (k + 1) p0 p1 L =
  lif (Option.isNone p0) (some (LR.ret (Value.tuple #[Value.int IntKind.i64 0, Value.int IntKind.i64 2]) L))
  (lif (Option.isNone p1) (some (LR.ret (Value.tuple #[Value.int IntKind.i64 0, Value.int IntKind.i64 2]) L)) (Proofs.Ytlcchghlhfamjaa.X.f44_l5 k k p0 p1 0 1 L)) := by kernel_rfl
theorem f44_l5_eq (k : Nat) (j5 : Nat) (p0 : Option Addr) (p1 : Option Addr) (n2 : Int) (n3 : Int) (L : LHeap) : Proofs.Ytlcchghlhfamjaa.X.f44_l5 k (j5 + 1) p0 p1 n2 n3 L =
  lif (decide (n3 < 16))
  (lbind (Proofs.Ytlcchghlhfamjaa.X.f26 k p1 1 L) fun v4 L5 =>
    obind (tupL v4) fun x6 =>
      uncons x6 fun v7 vs8 =>
        obind (asI IntKind.u32 v7) fun n9 =>
          uncons vs8 fun v10 vs11 =>
            obind (asI IntKind.i64 v10) fun n12 =>
              nilL vs11
                (lif (n12 != 0) (some (LR.ret (Value.tuple #[Value.int IntKind.i64 0, Value.int IntKind.i64 4]) L5))
                  (obind p0 fun a13 =>
                    when (decide (0 ≤ n3))
                      (when (decide (n3 < 16))
                        (obind (Option.bind (cell L5 (Addr.add (Addr.add a13 2) (Int.toNat n3 * 1))) (asI IntKind.u32)) fun n14 =>
                          lif (decide (IntKind.wrap IntKind.i64 (IntKind.wrap IntKind.i64 (bitop BinOp.or IntKind.u32 (IntKind.wrap IntKind.u32 (n2 * 2)) n9) - IntKind.wrap IntKind.i64 n14) ≥ 0))
                            (obind p0 fun a15 =>
                              when (decide (0 ≤ n3))
                                (when (decide (n3 < 16))
                                  (obind (Option.bind (cell L5 (Addr.add (Addr.add a15 18) (Int.toNat n3 * 1))) asSl) fun l16 =>
                                    lif
                                      (decide
                                        (IntKind.wrap IntKind.i64 (IntKind.wrap IntKind.i64 (bitop BinOp.or IntKind.u32 (IntKind.wrap IntKind.u32 (n2 * 2)) n9) - IntKind.wrap IntKind.i64 n14) <
                                          (↑l16.n : Int)))
                                      (obind p0 fun a17 =>
                                        when (decide (0 ≤ n3))
                                          (when (decide (n3 < 16))
                                            (obind (Option.bind (cell L5 (Addr.add (Addr.add a17 18) (Int.toNat n3 * 1))) asSl) fun l18 =>
                                              obind
                                                (idx l18
                                                  (IntKind.wrap IntKind.i64
                                                    (IntKind.wrap IntKind.i64 (bitop BinOp.or IntKind.u32 (IntKind.wrap IntKind.u32 (n2 * 2)) n9) - IntKind.wrap IntKind.i64 n14))
                                                  1)
                                                fun a19 =>
                                                obind (Option.bind (cell L5 a19) (asI IntKind.i64)) fun n20 => some (LR.ret (Value.tuple #[Value.int IntKind.i64 n20, Value.int IntKind.i64 0]) L5))))
                                      (Proofs.Ytlcchghlhfamjaa.X.f44_l5 k j5 p0 p1 (bitop BinOp.or IntKind.u32 (IntKind.wrap IntKind.u32 (n2 * 2)) n9) (IntKind.wrap IntKind.i64 (n3 + 1)) L5))))
                            (Proofs.Ytlcchghlhfamjaa.X.f44_l5 k j5 p0 p1 (bitop BinOp.or IntKind.u32 (IntKind.wrap IntKind.u32 (n2 * 2)) n9) (IntKind.wrap IntKind.i64 (n3 + 1)) L5))))))
  (some (LR.ret (Value.tuple #[Value.int IntKind.i64 0, Value.int IntKind.i64 4]) L)) := by kernel_rfl

theorem f45_eq (k : Nat) (p0 : Option Addr) (p1 : Option Addr) (n2 : Int) (L : LHeap) : Proofs.Ytlcchghlhfamjaa.X.f45 (k + 1) p0 p1 n2 L =
  lif (Option.isNone p0) (some (LR.ret (Value.int IntKind.i64 2) L))
  (lif (Option.isNone p1) (some (LR.ret (Value.int IntKind.i64 2) L))
    (lif (decide (n2 < 0)) (some (LR.ret (Value.int IntKind.i64 1) L))
      (obind p0 fun a3 =>
        obind (Option.bind (cell L (Addr.add a3 0)) asSl) fun l4 =>
          lif (decide (n2 ≥ (↑l4.n : Int))) (some (LR.ret (Value.int IntKind.i64 1) L))
            (obind p0 fun a5 =>
              obind (Option.bind (cell L (Addr.add a5 0)) asSl) fun l6 =>
                obind (idx l6 n2 1) fun a7 =>
                  obind (Option.bind (cell L a7) (asI IntKind.i64)) fun n8 =>
                    lif (n8 == 0) (some (LR.ret (Value.int IntKind.i64 1) L))
                      (obind p0 fun a9 =>
                        obind (Option.bind (cell L (Addr.add a9 1)) asSl) fun l10 =>
                          obind (idx l10 n2 1) fun a11 =>
                            obind (Option.bind (cell L a11) (asI IntKind.u32)) fun n12 =>
                              obind p0 fun a13 =>
                                obind (Option.bind (cell L (Addr.add a13 0)) asSl) fun l14 =>
                                  obind (idx l14 n2 1) fun a15 =>
                                    obind (Option.bind (cell L a15) (asI IntKind.i64)) fun n16 =>
                                      lbindR (Proofs.Ytlcchghlhfamjaa.X.f18 k p1 n12 n16 L) fun v17 L18 => obind (asI IntKind.i64 v17) fun n19 => some (LR.ret (Value.int IntKind.i64 n19) L18)))))) := by kernel_rfl

/-- slots 0, 3, 4 -/
noncomputable def f46_l3 (k : Nat) (j3 : Nat) (s7 : ByteArray) (s8 : ByteArray) (n9 : Int) (L : LHeap) : R :=
  loopAt Proofs.Try.prog Proofs.Ytlcchghlhfamjaa.X.T 46 k [1, 1, 0, 1, 0] [] j3 [(0, Value.string s7), (3, Value.string s8), (4, Value.int IntKind.i64 n9)] L
theorem f46_eq (k : Nat) (s0 : ByteArray) (L : LHeap) : Proofs.Ytlcchghlhfamjaa.X.f46 (k + 1) s0 L =
  Proofs.Ytlcchghlhfamjaa.X.f46_l3 k k s0 (ByteArray.mk #[]) 0 L := by kernel_rfl
theorem f46_l3_eq (k : Nat) (j3 : Nat) (s0 : ByteArray) (s1 : ByteArray) (n2 : Int) (L : LHeap) : Proofs.Ytlcchghlhfamjaa.X.f46_l3 k (j3 + 1) s0 s1 n2 L =
  lif (decide (n2 < (↑(ByteArray.size s0) : Int)))
  (obind (byteAt s0 n2) fun n3 =>
    lbind (Proofs.Ytlcchghlhfamjaa.X.f40 k (IntKind.wrap IntKind.u32 n3) 8 L) fun v4 L5 =>
      obind (asS v4) fun s6 => when (decide ((↑(ByteArray.size s1 + ByteArray.size s6) : Int) ≤ maxI)) (Proofs.Ytlcchghlhfamjaa.X.f46_l3 k j3 s0 (s1 ++ s6) (IntKind.wrap IntKind.i64 (n2 + 1)) L5))
  (some (LR.ret (Value.string s1) L)) := by kernel_rfl

/-- slots 0, 1, 2, 9, 10, 11 -/
noncomputable def f47_l3 (k : Nat) (j3 : Nat) (l14 : Sl) (s15 : ByteArray) (n16 : Int) (l17 : Sl) (n18 : Int) (n19 : Int) (L : LHeap) : R :=
  loopAt Proofs.Try.prog Proofs.Ytlcchghlhfamjaa.X.T 47 k [1, 1, 0, 1, 0] [] j3
  [(0, Value.slice l14.a l14.n l14.c), (1, Value.string s15), (2, Value.int IntKind.i64 n16), (9, Value.slice l17.a l17.n l17.c), (10, Value.int IntKind.i64 n18), (11, Value.int IntKind.i64 n19)] L
theorem f47_eq (k : Nat) (l0 : Sl) (s1 : ByteArray) (n2 : Int) (L : LHeap) : Proofs.Ytlcchghlhfamjaa.X.f47 (k + 1) l0 s1 n2 L =
  lbind (Proofs.Ytlcchghlhfamjaa.X.f41 k l0 L) fun v3 L4 =>
  obind (tupL v3) fun x5 =>
    uncons x5 fun v6 vs7 => obind (asSl v6) fun l8 => uncons vs7 fun v9 vs10 => obind (asI IntKind.i64 v9) fun n11 => nilL vs10 (Proofs.Ytlcchghlhfamjaa.X.f47_l3 k k l0 s1 n2 l8 n11 0 L4) := by kernel_rfl
theorem f47_l3_eq (k : Nat) (j3 : Nat) (l0 : Sl) (s1 : ByteArray) (n2 : Int) (l3 : Sl) (n4 : Int) (n5 : Int) (L : LHeap) : Proofs.Ytlcchghlhfamjaa.X.f47_l3 k (j3 + 1) l0 s1 n2 l3 n4 n5 L =
  lif (n4 == 0)
  (lif (decide (n5 < (↑l0.n : Int)))
    (obind (idx l0 n5 1) fun a6 =>
      obind (Option.bind (cell L a6) (asI IntKind.i64)) fun n7 =>
        lif (decide (n7 > 0))
          (lif (decide (IntKind.wrap IntKind.i64 (n2 + n7) ≤ (↑(ByteArray.size s1) : Int)))
            (obind (subS s1 (some n2) (some (IntKind.wrap IntKind.i64 (n2 + n7)))) fun s8 =>
              obind (idx l3 n5 1) fun a9 =>
                obind (Option.bind (cell L a9) (asI IntKind.u32)) fun n10 =>
                  lbindR (Proofs.Ytlcchghlhfamjaa.X.f40 k n10 n7 L) fun v11 L12 =>
                    obind (asS v11) fun s13 =>
                      lif (ByteArray.toList s8 == ByteArray.toList s13)
                        (some (LR.ret (Value.tuple #[Value.int IntKind.i64 n5, Value.int IntKind.i64 (IntKind.wrap IntKind.i64 (n2 + n7)), Value.bool true]) L12))
                        (Proofs.Ytlcchghlhfamjaa.X.f47_l3 k j3 l0 s1 n2 l3 n4 (IntKind.wrap IntKind.i64 (n5 + 1)) L12))
            (Proofs.Ytlcchghlhfamjaa.X.f47_l3 k j3 l0 s1 n2 l3 n4 (IntKind.wrap IntKind.i64 (n5 + 1)) L))
          (Proofs.Ytlcchghlhfamjaa.X.f47_l3 k j3 l0 s1 n2 l3 n4 (IntKind.wrap IntKind.i64 (n5 + 1)) L))
    (some (LR.ret (Value.tuple #[Value.int IntKind.i64 0, Value.int IntKind.i64 n2, Value.bool false]) L)))
  (some (LR.ret (Value.tuple #[Value.int IntKind.i64 0, Value.int IntKind.i64 n2, Value.bool false]) L)) := by kernel_rfl

theorem f49_eq (k : Nat) (l0 : Sl) (v1 : Value) (L : LHeap) : Proofs.Ytlcchghlhfamjaa.X.f49 (k + 1) l0 v1 L =
  lbind (Proofs.Ytlcchghlhfamjaa.X.f57 k l0 v1 L) fun v2 L3 => obind (asI IntKind.i64 v2) fun n4 => some (LR.ret (Value.bool (decide (n4 ≥ 0))) L3) := by kernel_rfl

theorem f50_eq (k : Nat) (n0 : Int) (L : LHeap) : Proofs.Ytlcchghlhfamjaa.X.f50 (k + 1) n0 L =
  lif (decide (n0 < 0)) (some (LR.ret (Value.bool true) L)) (some (LR.ret (Value.bool (decide (n0 > 1073741824))) L)) := by kernel_rfl

theorem f51_eq (k : Nat) (l0 : Sl) (L : LHeap) : Proofs.Ytlcchghlhfamjaa.X.f51 (k + 1) l0 L =
  lif (Option.isNone l0.a) (some (LR.ret (Value.slice none 0 0) L))
  (obind (srcOf (L ++ [LBlk.cells [] 3 false 0]) Proofs.Try.prog.types[3].size l0.n (Value.slice l0.a l0.n l0.c)) fun x1 =>
    obind (app (L ++ [LBlk.cells [] 3 false 0]) 3 Proofs.Try.prog.types[3].size Proofs.Try.prog.types[3].bytes (Sl.mk (some (Addr.mk (List.length L) 0 none)) 0 0) l0.n x1) fun x2 =>
      some (LR.ret (Value.slice x2.fst.a x2.fst.n x2.fst.c) x2.snd)) := by kernel_rfl

/-- slots 3, 4, 5, 15, 16, 17 -/
noncomputable def f52_l5 (k : Nat) (j5 : Nat) (r36 : Nat) (r37 : Nat) (r38 : Nat) (l39 : Sl) (n40 : Int) (n41 : Int) (L : LHeap) : R :=
  loopAt Proofs.Try.prog Proofs.Ytlcchghlhfamjaa.X.T 52 k [1, 1, 1, 1, 0, 1, 0] [] j5
  [(3, Value.pointer (some (Addr.mk r36 0 none))), (4, Value.pointer (some (Addr.mk r37 0 none))), (5, Value.pointer (some (Addr.mk r38 0 none))), (15, Value.slice l39.a l39.n l39.c),
    (16, Value.int IntKind.i64 n40), (17, Value.int IntKind.i64 n41)]
  L
/-- slots 3, 4, 5, 8 -/
noncomputable def f52_l15 (k : Nat) (j15 : Nat) (r42 : Nat) (r43 : Nat) (r44 : Nat) (r45 : Nat) (r46 : Nat) (L : LHeap) : R :=
  loopAt Proofs.Try.prog Proofs.Ytlcchghlhfamjaa.X.T 52 k [1, 1, 1, 1, 1, 1, 1, 0, 0] [] j15
  [(3, Value.pointer (some (Addr.mk r42 0 none))), (4, Value.pointer (some (Addr.mk r43 0 none))), (5, Value.pointer (some (Addr.mk r44 0 none))),
    (8, Value.func (Fn.func 58) #[] #[Value.pointer (some (Addr.mk r45 0 none)), Value.pointer (some (Addr.mk r46 0 none))])]
  L
theorem f52_eq (k : Nat) (l0 : Sl) (L : LHeap) : Proofs.Ytlcchghlhfamjaa.X.f52 (k + 1) l0 L =
  when (room (↑l0.n : Int) (↑l0.n : Int) Proofs.Try.prog.types[3].bytes)
  (obind
    (stores (L ++ [LBlk.cells (List.flatten (List.replicate (Int.toNat (↑l0.n : Int)) [Value.int IntKind.i64 0])) 3 false 0] ++ [LBlk.cells [Value.slice none 0 0] 38 false 0])
      (Addr.mk (List.length (L ++ [LBlk.cells (List.flatten (List.replicate (Int.toNat (↑l0.n : Int)) [Value.int IntKind.i64 0])) 3 false 0])) 0 none)
      [Value.slice (some (Addr.mk (List.length L) 0 none)) (Int.toNat (↑l0.n : Int)) (Int.toNat (↑l0.n : Int))])
    fun L1 =>
    Proofs.Ytlcchghlhfamjaa.X.f52_l5 k k (List.length (L ++ [LBlk.cells (List.flatten (List.replicate (Int.toNat (↑l0.n : Int)) [Value.int IntKind.i64 0])) 3 false 0])) (List.length L1)
      (List.length (L1 ++ [LBlk.cells [Value.slice none 0 0] 93 false 0])) l0 (↑l0.n : Int) 0 (L1 ++ [LBlk.cells [Value.slice none 0 0] 93 false 0] ++ [LBlk.cells [Value.slice none 0 0] 38 false 0])) := by kernel_rfl
theorem f52_l5_eq (k : Nat) (j5 : Nat) (r0 : Nat) (r1 : Nat) (r2 : Nat) (l3 : Sl) (n4 : Int) (n5 : Int) (L : LHeap) : Proofs.Ytlcchghlhfamjaa.X.f52_l5 k (j5 + 1) r0 r1 r2 l3 n4 n5 L =
  lif (decide (n5 < n4))
  (obind (idx l3 n5 1) fun a6 =>
    obind (Option.bind (cell L a6) (asI IntKind.i64)) fun n7 =>
      lif (decide (n7 > 0))
        (obind (Option.bind (cell L (Addr.mk r2 0 none)) asSl) fun l8 =>
          obind (Option.bind (cell L (Addr.mk r1 0 none)) asSl) fun l9 =>
            obind (srcOf (L ++ [LBlk.cells [Value.int IntKind.i64 (↑l9.n : Int)] 3 false 0]) Proofs.Try.prog.types[3].size 1 (Value.slice (some (Addr.mk (List.length L) 0 none)) 1 1)) fun x10 =>
              obind (app (L ++ [LBlk.cells [Value.int IntKind.i64 (↑l9.n : Int)] 3 false 0]) 3 Proofs.Try.prog.types[3].size Proofs.Try.prog.types[3].bytes l8 1 x10) fun x11 =>
                obind (stores x11.snd (Addr.mk r2 0 none) [Value.slice x11.fst.a x11.fst.n x11.fst.c]) fun L12 =>
                  obind (Option.bind (cell L12 (Addr.mk r1 0 none)) asSl) fun l13 =>
                    obind
                      (srcOf (L12 ++ [LBlk.cells [Value.int IntKind.i64 n7, Value.int IntKind.i64 (-1), Value.int IntKind.i64 n5] 95 false 0]) Proofs.Try.prog.types[95].size 1
                        (Value.slice (some (Addr.mk (List.length L12) 0 none)) 1 1))
                      fun x14 =>
                      obind
                        (app (L12 ++ [LBlk.cells [Value.int IntKind.i64 n7, Value.int IntKind.i64 (-1), Value.int IntKind.i64 n5] 95 false 0]) 95 Proofs.Try.prog.types[95].size
                          Proofs.Try.prog.types[95].bytes l13 1 x14)
                        fun x15 =>
                        obind (stores x15.snd (Addr.mk r1 0 none) [Value.slice x15.fst.a x15.fst.n x15.fst.c]) fun L16 =>
                          Proofs.Ytlcchghlhfamjaa.X.f52_l5 k j5 r0 r1 r2 l3 n4 (IntKind.wrap IntKind.i64 (n5 + 1)) L16)
        (Proofs.Ytlcchghlhfamjaa.X.f52_l5 k j5 r0 r1 r2 l3 n4 (IntKind.wrap IntKind.i64 (n5 + 1)) L))
  (obind (Option.bind (cell L (Addr.mk r2 0 none)) asSl) fun l17 =>
    lif ((↑l17.n : Int) == 1)
      (obind (Option.bind (cell L (Addr.mk r0 0 none)) asSl) fun l18 =>
        obind (Option.bind (cell L (Addr.mk r1 0 none)) asSl) fun l19 =>
          obind (idx l19 0 3) fun a20 =>
            obind (Option.bind (cell L (Addr.add a20 2)) (asI IntKind.i64)) fun n21 =>
              obind (idx l18 n21 1) fun a22 =>
                obind (stores L a22 [Value.int IntKind.i64 1]) fun L23 => obind (Option.bind (cell L23 (Addr.mk r0 0 none)) asSl) fun l24 => some (LR.ret (Value.slice l24.a l24.n l24.c) L23))
      (Proofs.Ytlcchghlhfamjaa.X.f52_l15 k k r0 r1 r2 r2 r1 L)) := by kernel_rfl
theorem f52_l15_eq (k : Nat) (j15 : Nat) (r0 : Nat) (r1 : Nat) (r2 : Nat) (r3 : Nat) (r4 : Nat) (L : LHeap) : Proofs.Ytlcchghlhfamjaa.X.f52_l15 k (j15 + 1) r0 r1 r2 r3 r4 L =
  obind (Option.bind (cell L (Addr.mk r2 0 none)) asSl) fun l5 =>
  lif (decide ((↑l5.n : Int) > 1))
    (lbind (Proofs.Ytlcchghlhfamjaa.X.f58 k r3 r4 L) fun v6 L7 =>
      obind (asI IntKind.i64 v6) fun n8 =>
        lbind (Proofs.Ytlcchghlhfamjaa.X.f58 k r3 r4 L7) fun v9 L10 =>
          obind (asI IntKind.i64 v9) fun n11 =>
            obind (Option.bind (cell L10 (Addr.mk r2 0 none)) asSl) fun l12 =>
              obind (Option.bind (cell L10 (Addr.mk r1 0 none)) asSl) fun l13 =>
                obind (srcOf (L10 ++ [LBlk.cells [Value.int IntKind.i64 (↑l13.n : Int)] 3 false 0]) Proofs.Try.prog.types[3].size 1 (Value.slice (some (Addr.mk (List.length L10) 0 none)) 1 1))
                  fun x14 =>
                  obind (app (L10 ++ [LBlk.cells [Value.int IntKind.i64 (↑l13.n : Int)] 3 false 0]) 3 Proofs.Try.prog.types[3].size Proofs.Try.prog.types[3].bytes l12 1 x14) fun x15 =>
                    obind (stores x15.snd (Addr.mk r2 0 none) [Value.slice x15.fst.a x15.fst.n x15.fst.c]) fun L16 =>
                      obind (Option.bind (cell L16 (Addr.mk r1 0 none)) asSl) fun l17 =>
                        obind (Option.bind (cell L16 (Addr.mk r1 0 none)) asSl) fun l18 =>
                          obind (idx l18 n8 3) fun a19 =>
                            obind (Option.bind (cell L16 (Addr.add a19 0)) (asI IntKind.i64)) fun n20 =>
                              obind (Option.bind (cell L16 (Addr.mk r1 0 none)) asSl) fun l21 =>
                                obind (idx l21 n11 3) fun a22 =>
                                  obind (Option.bind (cell L16 (Addr.add a22 0)) (asI IntKind.i64)) fun n23 =>
                                    obind
                                      (Option.bind
                                        (cell (L16 ++ [LBlk.cells [Value.int IntKind.i64 (IntKind.wrap IntKind.i64 (n20 + n23)), Value.int IntKind.i64 n8, Value.int IntKind.i64 n11] 95 false 0])
                                          (Addr.mk r1 0 none))
                                        asSl)
                                      fun l24 =>
                                      when (same (Value.slice l17.a l17.n l17.c) (Value.slice l24.a l24.n l24.c))
                                        (obind
                                          (srcOf (L16 ++ [LBlk.cells [Value.int IntKind.i64 (IntKind.wrap IntKind.i64 (n20 + n23)), Value.int IntKind.i64 n8, Value.int IntKind.i64 n11] 95 false 0])
                                            Proofs.Try.prog.types[95].size 1 (Value.slice (some (Addr.mk (List.length L16) 0 none)) 1 1))
                                          fun x25 =>
                                          obind
                                            (app (L16 ++ [LBlk.cells [Value.int IntKind.i64 (IntKind.wrap IntKind.i64 (n20 + n23)), Value.int IntKind.i64 n8, Value.int IntKind.i64 n11] 95 false 0]) 95
                                              Proofs.Try.prog.types[95].size Proofs.Try.prog.types[95].bytes l17 1 x25)
                                            fun x26 =>
                                            obind (stores x26.snd (Addr.mk r1 0 none) [Value.slice x26.fst.a x26.fst.n x26.fst.c]) fun L27 =>
                                              Proofs.Ytlcchghlhfamjaa.X.f52_l15 k j15 r0 r1 r2 r3 r4 L27))
    (obind
      (stores (L ++ [LBlk.cells [Value.nilFunc] 97 false 0]) (Addr.mk (List.length L) 0 none)
        [Value.func (Fn.func 60) #[] #[Value.pointer (some (Addr.mk r1 0 none)), Value.pointer (some (Addr.mk r0 0 none)), Value.pointer (some (Addr.mk (List.length L) 0 none))]])
      fun L28 =>
      obind (Option.bind (cell L28 (Addr.mk r1 0 none)) asSl) fun l29 =>
        lif (decide ((↑l29.n : Int) > 0))
          (obind (cell L28 (Addr.mk (List.length L) 0 none)) fun v30 =>
            obind (Option.bind (cell L28 (Addr.mk r1 0 none)) asSl) fun l31 =>
              lbind (lapp (lcall Proofs.Try.prog Proofs.Ytlcchghlhfamjaa.X.T k) v30 [Value.int IntKind.i64 (IntKind.wrap IntKind.i64 ((↑l31.n : Int) - 1)), Value.int IntKind.i64 0] L28) fun v32 L33 =>
                obind (Option.bind (cell L33 (Addr.mk r0 0 none)) asSl) fun l34 => some (LR.ret (Value.slice l34.a l34.n l34.c) L33))
          (obind (Option.bind (cell L28 (Addr.mk r0 0 none)) asSl) fun l35 => some (LR.ret (Value.slice l35.a l35.n l35.c) L28))) := by kernel_rfl

/-- slots 0, 3, 4 -/
noncomputable def f53_l5 (k : Nat) (j5 : Nat) (l5 : Sl) (n6 : Int) (n7 : Int) (L : LHeap) : R :=
  loopAt Proofs.Try.prog Proofs.Ytlcchghlhfamjaa.X.T 53 k [1, 1, 1, 0, 1, 0] [] j5 [(0, Value.slice l5.a l5.n l5.c), (3, Value.int IntKind.i64 n6), (4, Value.int IntKind.i64 n7)] L
theorem f53_eq (k : Nat) (l0 : Sl) (L : LHeap) : Proofs.Ytlcchghlhfamjaa.X.f53 (k + 1) l0 L =
  lif (decide ((↑l0.n : Int) < 1))
  (some (LR.pan (Value.iface 9 (Value.string (ByteArray.mk #[115, 108, 105, 99, 101, 115, 46, 77, 97, 120, 58, 32, 101, 109, 112, 116, 121, 32, 108, 105, 115, 116]))) L))
  (obind (idx l0 0 1) fun a1 => obind (Option.bind (cell L a1) (asI IntKind.i64)) fun n2 => Proofs.Ytlcchghlhfamjaa.X.f53_l5 k k l0 n2 1 L) := by kernel_rfl
theorem f53_l5_eq (k : Nat) (j5 : Nat) (l0 : Sl) (n1 : Int) (n2 : Int) (L : LHeap) : Proofs.Ytlcchghlhfamjaa.X.f53_l5 k (j5 + 1) l0 n1 n2 L =
  lif (decide (n2 < (↑l0.n : Int)))
  (obind (idx l0 n2 1) fun a3 =>
    obind (Option.bind (cell L a3) (asI IntKind.i64)) fun n4 =>
      Proofs.Ytlcchghlhfamjaa.X.f53_l5 k j5 l0 (if true = true then if n4 > n1 then n4 else n1 else if n4 < n1 then n4 else n1) (IntKind.wrap IntKind.i64 (n2 + 1)) L)
  (some (LR.ret (Value.int IntKind.i64 n1) L)) := by kernel_rfl

/-- slots 0, 3, 4, 5 -/
noncomputable def f54_l4 (k : Nat) (j4 : Nat) (l20 : Sl) (l21 : Sl) (l22 : Sl) (n23 : Int) (L : LHeap) : R :=
  loopAt Proofs.Try.prog Proofs.Ytlcchghlhfamjaa.X.T 54 k [1, 1, 1, 0, 1, 0] [] j4
  [(0, Value.slice l20.a l20.n l20.c), (3, Value.slice l21.a l21.n l21.c), (4, Value.slice l22.a l22.n l22.c), (5, Value.int IntKind.i64 n23)] L
/-- slots 3, 4, 6 -/
noncomputable def f54_l12 (k : Nat) (j12 : Nat) (l24 : Sl) (l25 : Sl) (n26 : Int) (L : LHeap) : R :=
  loopAt Proofs.Try.prog Proofs.Ytlcchghlhfamjaa.X.T 54 k [1, 1, 1, 1, 1, 1, 0, 0] [] j12 [(3, Value.slice l24.a l24.n l24.c), (4, Value.slice l25.a l25.n l25.c), (6, Value.int IntKind.i64 n26)] L
/-- slots 3, 4, 6, 7, 8, 9 -/
noncomputable def f54_l15 (k : Nat) (j12_27 : Nat) (j15 : Nat) (l28 : Sl) (l29 : Sl) (n30 : Int) (n31 : Int) (n32 : Int) (n33 : Int) (L : LHeap) : R :=
  loopAt Proofs.Try.prog Proofs.Ytlcchghlhfamjaa.X.T 54 k [1, 1, 1, 1, 1, 1, 0, 0, 0, 1, 0, 1, 0, 1, 0] [j12_27] j15
  [(3, Value.slice l28.a l28.n l28.c), (4, Value.slice l29.a l29.n l29.c), (6, Value.int IntKind.i64 n30), (7, Value.int IntKind.i64 n31), (8, Value.int IntKind.i64 n32),
    (9, Value.int IntKind.i64 n33)]
  L
/-- slots 3, 4, 6, 7, 8, 10, 11 -/
noncomputable def f54_l27 (k : Nat) (j12_34 : Nat) (j27 : Nat) (l35 : Sl) (l36 : Sl) (n37 : Int) (n38 : Int) (n39 : Int) (l40 : Sl) (n41 : Int) (L : LHeap) : R :=
  loopAt Proofs.Try.prog Proofs.Ytlcchghlhfamjaa.X.T 54 k [1, 1, 1, 1, 1, 1, 0, 0, 0, 1, 0, 1, 1, 1, 1, 1, 0, 1, 0] [j12_34] j27
  [(3, Value.slice l35.a l35.n l35.c), (4, Value.slice l36.a l36.n l36.c), (6, Value.int IntKind.i64 n37), (7, Value.int IntKind.i64 n38), (8, Value.int IntKind.i64 n39),
    (10, Value.slice l40.a l40.n l40.c), (11, Value.int IntKind.i64 n41)]
  L
theorem f54_eq (k : Nat) (l0 : Sl) (L : LHeap) : Proofs.Ytlcchghlhfamjaa.X.f54 (k + 1) l0 L =
  when (room (↑l0.n : Int) (↑l0.n : Int) Proofs.Try.prog.types[3].bytes)
  (Proofs.Ytlcchghlhfamjaa.X.f54_l4 k k l0 (Sl.mk (some (Addr.mk (List.length L) 0 none)) (Int.toNat (↑l0.n : Int)) (Int.toNat (↑l0.n : Int))) (Sl.mk none 0 0) 0
    (L ++ [LBlk.cells (List.flatten (List.replicate (Int.toNat (↑l0.n : Int)) [Value.int IntKind.i64 0])) 3 false 0])) := by kernel_rfl
theorem f54_l4_eq (k : Nat) (j4 : Nat) (l0 : Sl) (l1 : Sl) (l2 : Sl) (n3 : Int) (L : LHeap) : Proofs.Ytlcchghlhfamjaa.X.f54_l4 k (j4 + 1) l0 l1 l2 n3 L =
  lif (decide (n3 < (↑l0.n : Int)))
  (obind (idx l0 n3 1) fun a4 =>
    obind (Option.bind (cell L a4) (asI IntKind.i64)) fun n5 =>
      lif (decide (n5 > 0))
        (obind (idx l0 n3 1) fun a6 =>
          obind (Option.bind (cell L a6) (asI IntKind.i64)) fun n7 =>
            obind
              (srcOf
                (L ++ [LBlk.cells [Value.int IntKind.i64 n3] 3 false 0] ++
                  [LBlk.cells [Value.int IntKind.i64 n7, Value.slice (some (Addr.mk (List.length L) 0 none)) 1 1, Value.bool false] 100 false 0])
                Proofs.Try.prog.types[100].size 1 (Value.slice (some (Addr.mk (List.length (L ++ [LBlk.cells [Value.int IntKind.i64 n3] 3 false 0])) 0 none)) 1 1))
              fun x8 =>
              obind
                (app
                  (L ++ [LBlk.cells [Value.int IntKind.i64 n3] 3 false 0] ++
                    [LBlk.cells [Value.int IntKind.i64 n7, Value.slice (some (Addr.mk (List.length L) 0 none)) 1 1, Value.bool false] 100 false 0])
                  100 Proofs.Try.prog.types[100].size Proofs.Try.prog.types[100].bytes l2 1 x8)
                fun x9 => Proofs.Ytlcchghlhfamjaa.X.f54_l4 k j4 l0 l1 x9.fst (IntKind.wrap IntKind.i64 (n3 + 1)) x9.snd)
        (Proofs.Ytlcchghlhfamjaa.X.f54_l4 k j4 l0 l1 l2 (IntKind.wrap IntKind.i64 (n3 + 1)) L))
  (lif ((↑l2.n : Int) == 1)
    (obind (idx l2 0 3) fun a10 =>
      obind (Option.bind (cell L (Addr.add a10 1)) asSl) fun l11 =>
        obind (idx l11 0 1) fun a12 =>
          obind (Option.bind (cell L a12) (asI IntKind.i64)) fun n13 =>
            obind (idx l1 n13 1) fun a14 => obind (stores L a14 [Value.int IntKind.i64 1]) fun L15 => some (LR.ret (Value.slice l1.a l1.n l1.c) L15))
    (Proofs.Ytlcchghlhfamjaa.X.f54_l12 k k l1 l2 (↑l2.n : Int) L)) := by kernel_rfl
theorem f54_l12_eq (k : Nat) (j12 : Nat) (l0 : Sl) (l1 : Sl) (n2 : Int) (L : LHeap) : Proofs.Ytlcchghlhfamjaa.X.f54_l12 k (j12 + 1) l0 l1 n2 L =
  lif (decide (n2 > 1)) (Proofs.Ytlcchghlhfamjaa.X.f54_l15 k j12 k l0 l1 n2 (-1) (-1) 0 L) (some (LR.ret (Value.slice l0.a l0.n l0.c) L)) := by kernel_rfl
theorem f54_l15_eq (k : Nat) (j12_0 : Nat) (j15 : Nat) (l1 : Sl) (l2 : Sl) (n3 : Int) (n4 : Int) (n5 : Int) (n6 : Int) (L : LHeap) : Proofs.Ytlcchghlhfamjaa.X.f54_l15 k j12_0 (j15 + 1) l1 l2 n3 n4 n5 n6 L =
  lif (decide (n6 < (↑l2.n : Int)))
  (obind (idx l2 n6 3) fun a7 =>
    obind (Option.bind (cell L (Addr.add a7 2)) asB) fun b8 =>
      lif b8 (Proofs.Ytlcchghlhfamjaa.X.f54_l15 k j12_0 j15 l1 l2 n3 n4 n5 (IntKind.wrap IntKind.i64 (n6 + 1)) L)
        (lif (decide (n4 < 0)) (Proofs.Ytlcchghlhfamjaa.X.f54_l15 k j12_0 j15 l1 l2 n3 n6 n4 (IntKind.wrap IntKind.i64 (n6 + 1)) L)
          (obind (idx l2 n6 3) fun a9 =>
            obind (Option.bind (cell L (Addr.add a9 0)) (asI IntKind.i64)) fun n10 =>
              obind (idx l2 n4 3) fun a11 =>
                obind (Option.bind (cell L (Addr.add a11 0)) (asI IntKind.i64)) fun n12 =>
                  lif (decide (n10 < n12)) (Proofs.Ytlcchghlhfamjaa.X.f54_l15 k j12_0 j15 l1 l2 n3 n6 n4 (IntKind.wrap IntKind.i64 (n6 + 1)) L)
                    (lif (decide (n5 < 0)) (Proofs.Ytlcchghlhfamjaa.X.f54_l15 k j12_0 j15 l1 l2 n3 n4 n6 (IntKind.wrap IntKind.i64 (n6 + 1)) L)
                      (obind (idx l2 n6 3) fun a13 =>
                        obind (Option.bind (cell L (Addr.add a13 0)) (asI IntKind.i64)) fun n14 =>
                          obind (idx l2 n5 3) fun a15 =>
                            obind (Option.bind (cell L (Addr.add a15 0)) (asI IntKind.i64)) fun n16 =>
                              lif (decide (n14 < n16)) (Proofs.Ytlcchghlhfamjaa.X.f54_l15 k j12_0 j15 l1 l2 n3 n4 n6 (IntKind.wrap IntKind.i64 (n6 + 1)) L)
                                (Proofs.Ytlcchghlhfamjaa.X.f54_l15 k j12_0 j15 l1 l2 n3 n4 n5 (IntKind.wrap IntKind.i64 (n6 + 1)) L))))))
  (obind (idx l2 n4 3) fun a17 =>
    obind (stores L (Addr.add a17 2) [Value.bool true]) fun L18 =>
      obind (idx l2 n5 3) fun a19 =>
        obind (stores L18 (Addr.add a19 2) [Value.bool true]) fun L20 =>
          obind (idx l2 n4 3) fun a21 =>
            obind (Option.bind (cell (L20 ++ [LBlk.cells [] 3 false 0]) (Addr.add a21 1)) asSl) fun l22 =>
              obind (Option.bind (cell L20 (Addr.add a21 1)) asSl) fun l23 =>
                when (same (Value.slice l22.a l22.n l22.c) (Value.slice l23.a l23.n l23.c))
                  (obind (srcOf (L20 ++ [LBlk.cells [] 3 false 0]) Proofs.Try.prog.types[3].size l22.n (Value.slice l22.a l22.n l22.c)) fun x24 =>
                    obind (app (L20 ++ [LBlk.cells [] 3 false 0]) 3 Proofs.Try.prog.types[3].size Proofs.Try.prog.types[3].bytes (Sl.mk (some (Addr.mk (List.length L20) 0 none)) 0 0) l22.n x24)
                      fun x25 =>
                      obind (idx l2 n5 3) fun a26 =>
                        obind (Option.bind (cell x25.snd (Addr.add a26 1)) asSl) fun l27 =>
                          obind (Option.bind (cell (L20 ++ [LBlk.cells [] 3 false 0]) (Addr.add a26 1)) asSl) fun l28 =>
                            when (same (Value.slice l27.a l27.n l27.c) (Value.slice l28.a l28.n l28.c))
                              (obind (Option.bind (cell L20 (Addr.add a26 1)) asSl) fun l29 =>
                                when (same (Value.slice l27.a l27.n l27.c) (Value.slice l29.a l29.n l29.c))
                                  (obind (srcOf x25.snd Proofs.Try.prog.types[3].size l27.n (Value.slice l27.a l27.n l27.c)) fun x30 =>
                                    obind (app x25.snd 3 Proofs.Try.prog.types[3].size Proofs.Try.prog.types[3].bytes x25.fst l27.n x30) fun x31 =>
                                      Proofs.Ytlcchghlhfamjaa.X.f54_l27 k j12_0 k l1 l2 n3 n4 n5 x31.fst 0 x31.snd)))) := by kernel_rfl
theorem f54_l27_eq (k : Nat) (j12_0 : Nat) (j27 : Nat) (l1 : Sl) (l2 : Sl) (n3 : Int) (n4 : Int) (n5 : Int) (l6 : Sl) (n7 : Int) (L : LHeap) : Proofs.Ytlcchghlhfamjaa.X.f54_l27 k j12_0 (j27 + 1) l1 l2 n3 n4 n5 l6 n7 L =
  lif (decide (n7 < (↑l6.n : Int)))
  (obind (idx l6 n7 1) fun a8 =>
    obind (Option.bind (cell L a8) (asI IntKind.i64)) fun n9 =>
      obind (idx l1 n9 1) fun a10 =>
        obind (Option.bind (cell L a10) (asI IntKind.i64)) fun n11 =>
          obind (idx l1 n9 1) fun a12 =>
            obind (stores L a12 [Value.int IntKind.i64 (IntKind.wrap IntKind.i64 (n11 + 1))]) fun L13 =>
              Proofs.Ytlcchghlhfamjaa.X.f54_l27 k j12_0 j27 l1 l2 n3 n4 n5 l6 (IntKind.wrap IntKind.i64 (n7 + 1)) L13)
  (obind (idx l2 n4 3) fun a14 =>
    obind (Option.bind (cell L (Addr.add a14 0)) (asI IntKind.i64)) fun n15 =>
      obind (idx l2 n5 3) fun a16 =>
        obind (Option.bind (cell L (Addr.add a16 0)) (asI IntKind.i64)) fun n17 =>
          obind
            (srcOf (L ++ [LBlk.cells [Value.int IntKind.i64 (IntKind.wrap IntKind.i64 (n15 + n17)), Value.slice l6.a l6.n l6.c, Value.bool false] 100 false 0]) Proofs.Try.prog.types[100].size 1
              (Value.slice (some (Addr.mk (List.length L) 0 none)) 1 1))
            fun x18 =>
            obind
              (app (L ++ [LBlk.cells [Value.int IntKind.i64 (IntKind.wrap IntKind.i64 (n15 + n17)), Value.slice l6.a l6.n l6.c, Value.bool false] 100 false 0]) 100 Proofs.Try.prog.types[100].size
                Proofs.Try.prog.types[100].bytes l2 1 x18)
              fun x19 => Proofs.Ytlcchghlhfamjaa.X.f54_l12 k j12_0 l1 x19.fst (IntKind.wrap IntKind.i64 (n3 - 1)) x19.snd) := by kernel_rfl

/-- slots 2, 6, 7, 8 -/
noncomputable def f55_l2 (k : Nat) (j2 : Nat) (r17 : Nat) (l18 : Sl) (n19 : Int) (n20 : Int) (L : LHeap) : R :=
  loopAt Proofs.Try.prog Proofs.Ytlcchghlhfamjaa.X.T 55 k [1, 0, 1, 0] [] j2
  [(2, Value.pointer (some (Addr.mk r17 0 none))), (6, Value.slice l18.a l18.n l18.c), (7, Value.int IntKind.i64 n19), (8, Value.int IntKind.i64 n20)] L
theorem f55_eq (k : Nat) (l0 : Sl) (L : LHeap) : Proofs.Ytlcchghlhfamjaa.X.f55 (k + 1) l0 L =
  Proofs.Ytlcchghlhfamjaa.X.f55_l2 k k (List.length L) l0 (↑l0.n : Int) 0
  (L ++
    [LBlk.cells
        [Value.int IntKind.i64 0, Value.int IntKind.i64 0, Value.int IntKind.i64 0, Value.int IntKind.i64 0, Value.int IntKind.i64 0, Value.int IntKind.i64 0, Value.int IntKind.i64 0,
          Value.int IntKind.i64 0, Value.int IntKind.i64 0, Value.int IntKind.i64 0, Value.int IntKind.i64 0, Value.int IntKind.i64 0, Value.int IntKind.i64 0, Value.int IntKind.i64 0,
          Value.int IntKind.i64 0, Value.int IntKind.i64 0]
        84 false 0]) := by kernel_rfl
theorem f55_l2_eq (k : Nat) (j2 : Nat) (r0 : Nat) (l1 : Sl) (n2 : Int) (n3 : Int) (L : LHeap) : Proofs.Ytlcchghlhfamjaa.X.f55_l2 k (j2 + 1) r0 l1 n2 n3 L =
  lif (decide (n3 < n2))
  (obind (idx l1 n3 1) fun a4 =>
    obind (Option.bind (cell L a4) (asI IntKind.i64)) fun n5 =>
      lif (decide (n5 < 0))
        (obind (cellsAt L (Addr.mk r0 0 none) 16) fun x6 =>
          when (Nat.beq (List.length x6) 16)
            (obind (stores L (Addr.mk r0 0 none) x6) fun L7 => obind (cellsAt L7 (Addr.mk r0 0 none) 16) fun x8 => some (LR.ret (Value.tuple #[Value.agg (List.toArray x8), Value.bool false]) L7)))
        (lif (decide (n5 > 15))
          (obind (cellsAt L (Addr.mk r0 0 none) 16) fun x9 =>
            when (Nat.beq (List.length x9) 16)
              (obind (stores L (Addr.mk r0 0 none) x9) fun L10 =>
                obind (cellsAt L10 (Addr.mk r0 0 none) 16) fun x11 => some (LR.ret (Value.tuple #[Value.agg (List.toArray x11), Value.bool false]) L10)))
          (when (decide (0 ≤ n5))
            (when (decide (n5 < 16))
              (obind (Option.bind (cell L (Addr.add (Addr.mk r0 0 none) (Int.toNat n5 * 1))) (asI IntKind.i64)) fun n12 =>
                when (decide (0 ≤ n5))
                  (when (decide (n5 < 16))
                    (obind (stores L (Addr.add (Addr.mk r0 0 none) (Int.toNat n5 * 1)) [Value.int IntKind.i64 (IntKind.wrap IntKind.i64 (n12 + 1))]) fun L13 =>
                      Proofs.Ytlcchghlhfamjaa.X.f55_l2 k j2 r0 l1 n2 (IntKind.wrap IntKind.i64 (n3 + 1)) L13)))))))
  (obind (cellsAt L (Addr.mk r0 0 none) 16) fun x14 =>
    when (Nat.beq (List.length x14) 16)
      (obind (stores L (Addr.mk r0 0 none) x14) fun L15 => obind (cellsAt L15 (Addr.mk r0 0 none) 16) fun x16 => some (LR.ret (Value.tuple #[Value.agg (List.toArray x16), Value.bool true]) L15))) := by kernel_rfl

/-- slots 1, 2, 3, 4 -/
noncomputable def f56_l3 (k : Nat) (j3 : Nat) (r9 : Nat) (r10 : Nat) (n11 : Int) (n12 : Int) (L : LHeap) : R :=
  loopAt Proofs.Try.prog Proofs.Ytlcchghlhfamjaa.X.T 56 k [1, 1, 0, 1, 0] [] j3
  [(1, Value.pointer (some (Addr.mk r9 0 none))), (2, Value.pointer (some (Addr.mk r10 0 none))), (3, Value.int IntKind.u32 n11), (4, Value.int IntKind.i64 n12)] L
theorem f56_eq (k : Nat) (c0 : Array Value) (L : LHeap) : Proofs.Ytlcchghlhfamjaa.X.f56 (k + 1) c0 L =
  Proofs.Ytlcchghlhfamjaa.X.f56_l3 k k (List.length L) (List.length (L ++ [LBlk.cells c0.toList 84 false 0])) 0 1
  (L ++ [LBlk.cells c0.toList 84 false 0] ++
    [LBlk.cells
        [Value.int IntKind.u32 0, Value.int IntKind.u32 0, Value.int IntKind.u32 0, Value.int IntKind.u32 0, Value.int IntKind.u32 0, Value.int IntKind.u32 0, Value.int IntKind.u32 0,
          Value.int IntKind.u32 0, Value.int IntKind.u32 0, Value.int IntKind.u32 0, Value.int IntKind.u32 0, Value.int IntKind.u32 0, Value.int IntKind.u32 0, Value.int IntKind.u32 0,
          Value.int IntKind.u32 0, Value.int IntKind.u32 0]
        87 false 0]) := by kernel_rfl
theorem f56_l3_eq (k : Nat) (j3 : Nat) (r0 : Nat) (r1 : Nat) (n2 : Int) (n3 : Int) (L : LHeap) : Proofs.Ytlcchghlhfamjaa.X.f56_l3 k (j3 + 1) r0 r1 n2 n3 L =
  lif (decide (n3 < 16))
  (when (decide (0 ≤ n3))
    (when (decide (n3 < 16))
      (obind (stores L (Addr.add (Addr.mk r1 0 none) (Int.toNat n3 * 1)) [Value.int IntKind.u32 n2]) fun L4 =>
        when (decide (0 ≤ n3))
          (when (decide (n3 < 16))
            (obind (Option.bind (cell L4 (Addr.add (Addr.mk r0 0 none) (Int.toNat n3 * 1))) (asI IntKind.i64)) fun n5 =>
              Proofs.Ytlcchghlhfamjaa.X.f56_l3 k j3 r0 r1 (IntKind.wrap IntKind.u32 (IntKind.wrap IntKind.u32 (n2 + IntKind.wrap IntKind.u32 n5) * 2)) (IntKind.wrap IntKind.i64 (n3 + 1)) L4)))))
  (obind (cellsAt L (Addr.mk r1 0 none) 16) fun x6 =>
    when (Nat.beq (List.length x6) 16) (obind (stores L (Addr.mk r1 0 none) x6) fun L7 => obind (cellsAt L7 (Addr.mk r1 0 none) 16) fun x8 => some (LR.ret (Value.agg (List.toArray x8)) L7))) := by kernel_rfl

/-- slots 0, 1, 7, 8 -/
noncomputable def f57_l2 (k : Nat) (j2 : Nat) (l9 : Sl) (v10 : Value) (n11 : Int) (n12 : Int) (L : LHeap) : R :=
  loopAt Proofs.Try.prog Proofs.Ytlcchghlhfamjaa.X.T 57 k [1, 0, 1, 0] [] j2 [(0, Value.slice l9.a l9.n l9.c), (1, v10), (7, Value.int IntKind.i64 n11), (8, Value.int IntKind.i64 n12)] L
theorem f57_eq (k : Nat) (l0 : Sl) (v1 : Value) (L : LHeap) : Proofs.Ytlcchghlhfamjaa.X.f57 (k + 1) l0 v1 L =
  Proofs.Ytlcchghlhfamjaa.X.f57_l2 k k l0 v1 (↑l0.n : Int) 0 L := by kernel_rfl
theorem f57_l2_eq (k : Nat) (j2 : Nat) (l0 : Sl) (v1 : Value) (n2 : Int) (n3 : Int) (L : LHeap) : Proofs.Ytlcchghlhfamjaa.X.f57_l2 k (j2 + 1) l0 v1 n2 n3 L =
  lif (decide (n3 < n2))
  (obind (idx l0 n3 1) fun a4 =>
    obind (Option.bind (cell L a4) (asI IntKind.i64)) fun n5 =>
      lbind (lapp (lcall Proofs.Try.prog Proofs.Ytlcchghlhfamjaa.X.T k) v1 [Value.int IntKind.i64 n5] L) fun v6 L7 =>
        obind (asB v6) fun b8 => lif b8 (some (LR.ret (Value.int IntKind.i64 n3) L7)) (Proofs.Ytlcchghlhfamjaa.X.f57_l2 k j2 l0 v1 n2 (IntKind.wrap IntKind.i64 (n3 + 1)) L7))
  (some (LR.ret (Value.int IntKind.i64 (-1)) L)) := by kernel_rfl

/-- slots 0, 1, 3, 7, 8, 9 -/
noncomputable def f58_l3 (k : Nat) (j3 : Nat) (r25 : Nat) (r26 : Nat) (n27 : Int) (l28 : Sl) (n29 : Int) (n30 : Int) (L : LHeap) : R :=
  loopAt Proofs.Try.prog Proofs.Ytlcchghlhfamjaa.X.T 58 k [1, 1, 0, 1, 0] [] j3
  [(0, Value.pointer (some (Addr.mk r25 0 none))), (1, Value.pointer (some (Addr.mk r26 0 none))), (3, Value.int IntKind.i64 n27), (7, Value.slice l28.a l28.n l28.c), (8, Value.int IntKind.i64 n29),
    (9, Value.int IntKind.i64 n30)]
  L
theorem f58_eq (k : Nat) (r0 : Nat) (r1 : Nat) (L : LHeap) : Proofs.Ytlcchghlhfamjaa.X.f58 (k + 1) r0 r1 L =
  obind (Option.bind (cell L (Addr.mk r0 0 none)) asSl) fun l2 => Proofs.Ytlcchghlhfamjaa.X.f58_l3 k k r0 r1 0 l2 (↑l2.n : Int) 0 L := by kernel_rfl
theorem f58_l3_eq (k : Nat) (j3 : Nat) (r0 : Nat) (r1 : Nat) (n2 : Int) (l3 : Sl) (n4 : Int) (n5 : Int) (L : LHeap) : Proofs.Ytlcchghlhfamjaa.X.f58_l3 k (j3 + 1) r0 r1 n2 l3 n4 n5 L =
  lif (decide (n5 < n4))
  (obind (idx l3 n5 1) fun a6 =>
    obind (Option.bind (cell L a6) (asI IntKind.i64)) fun n7 =>
      obind (Option.bind (cell L (Addr.mk r1 0 none)) asSl) fun l8 =>
        obind (idx l8 n7 3) fun a9 =>
          obind (Option.bind (cell L (Addr.add a9 0)) (asI IntKind.i64)) fun n10 =>
            obind (Option.bind (cell L (Addr.mk r1 0 none)) asSl) fun l11 =>
              obind (Option.bind (cell L (Addr.mk r0 0 none)) asSl) fun l12 =>
                obind (idx l12 n2 1) fun a13 =>
                  obind (Option.bind (cell L a13) (asI IntKind.i64)) fun n14 =>
                    obind (idx l11 n14 3) fun a15 =>
                      obind (Option.bind (cell L (Addr.add a15 0)) (asI IntKind.i64)) fun n16 =>
                        lif (decide (n10 < n16)) (Proofs.Ytlcchghlhfamjaa.X.f58_l3 k j3 r0 r1 n5 l3 n4 (IntKind.wrap IntKind.i64 (n5 + 1)) L)
                          (Proofs.Ytlcchghlhfamjaa.X.f58_l3 k j3 r0 r1 n2 l3 n4 (IntKind.wrap IntKind.i64 (n5 + 1)) L))
  (obind (Option.bind (cell L (Addr.mk r0 0 none)) asSl) fun l17 =>
    obind (idx l17 n2 1) fun a18 =>
      obind (Option.bind (cell L a18) (asI IntKind.i64)) fun n19 =>
        obind (Option.bind (cell L (Addr.mk r0 0 none)) asSl) fun l20 =>
          lbind (Proofs.Ytlcchghlhfamjaa.X.f59 k l20 n2 (IntKind.wrap IntKind.i64 (n2 + 1)) L) fun v21 L22 =>
            obind (asSl v21) fun l23 => obind (stores L22 (Addr.mk r0 0 none) [Value.slice l23.a l23.n l23.c]) fun L24 => some (LR.ret (Value.int IntKind.i64 n19) L24)) := by kernel_rfl

theorem f59_eq (k : Nat) (l0 : Sl) (n1 : Int) (n2 : Int) (L : LHeap) : Proofs.Ytlcchghlhfamjaa.X.f59 (k + 1) l0 n1 n2 L =
  obind (cut L l0 (some n1) (some n2) (some (↑l0.n : Int)) 1) fun l3 =>
  lif (n1 == n2) (some (LR.ret (Value.slice l0.a l0.n l0.c) L))
    (obind (cut L l0 none (some n1) none 1) fun l4 =>
      obind (cut L l0 (some n2) none none 1) fun l5 =>
        obind (srcOf L Proofs.Try.prog.types[3].size l5.n (Value.slice l5.a l5.n l5.c)) fun x6 =>
          obind (app L 3 Proofs.Try.prog.types[3].size Proofs.Try.prog.types[3].bytes l4 l5.n x6) fun x7 =>
            obind (cut x7.snd x7.fst (some (↑x7.fst.n : Int)) (some (↑l0.n : Int)) none 1) fun l8 =>
              obind (lcopy x7.snd l8 l8.n (List.length [Value.int IntKind.i64 0]) (List.flatten (List.replicate l8.n [Value.int IntKind.i64 0]))) fun L9 =>
                some (LR.ret (Value.slice x7.fst.a x7.fst.n x7.fst.c) L9)) := by kernel_rfl

theorem f60_eq (k : Nat) (n0 : Int) (n1 : Int) (r2 : Nat) (r3 : Nat) (r4 : Nat) (L : LHeap) : Proofs.Ytlcchghlhfamjaa.X.f60 (k + 1) n0 n1 r2 r3 r4 L =
  obind (Option.bind (cell L (Addr.mk r2 0 none)) asSl) fun l5 =>
  obind (idx l5 n0 3) fun a6 =>
    obind (Option.bind (cell L (Addr.add a6 1)) (asI IntKind.i64)) fun n7 =>
      lif (decide (n7 < 0))
        (obind (Option.bind (cell L (Addr.mk r3 0 none)) asSl) fun l8 =>
          obind (Option.bind (cell L (Addr.mk r2 0 none)) asSl) fun l9 =>
            obind (idx l9 n0 3) fun a10 =>
              obind (Option.bind (cell L (Addr.add a10 2)) (asI IntKind.i64)) fun n11 =>
                obind (idx l8 n11 1) fun a12 => obind (stores L a12 [Value.int IntKind.i64 n1]) fun L13 => some (LR.ret (Value.tuple #[]) L13))
        (obind (cell L (Addr.mk r4 0 none)) fun v14 =>
          obind (Option.bind (cell L (Addr.mk r2 0 none)) asSl) fun l15 =>
            obind (idx l15 n0 3) fun a16 =>
              obind (Option.bind (cell L (Addr.add a16 1)) (asI IntKind.i64)) fun n17 =>
                lbindR (lapp (lcall Proofs.Try.prog Proofs.Ytlcchghlhfamjaa.X.T k) v14 [Value.int IntKind.i64 n17, Value.int IntKind.i64 (IntKind.wrap IntKind.i64 (n1 + 1))] L) fun v18 L19 =>
                  obind (cell L19 (Addr.mk r4 0 none)) fun v20 =>
                    obind (Option.bind (cell L19 (Addr.mk r2 0 none)) asSl) fun l21 =>
                      obind (idx l21 n0 3) fun a22 =>
                        obind (Option.bind (cell L19 (Addr.add a22 2)) (asI IntKind.i64)) fun n23 =>
                          lbindR (lapp (lcall Proofs.Try.prog Proofs.Ytlcchghlhfamjaa.X.T k) v20 [Value.int IntKind.i64 n23, Value.int IntKind.i64 (IntKind.wrap IntKind.i64 (n1 + 1))] L19)
                            fun v24 L25 => some (LR.ret (Value.tuple #[]) L25)) := by kernel_rfl

end Go.Proofs.Ytlcchghlhfamjaa.X

/- Printed by RPrint.lean, a program of this session's: for Go functions of the program, functions over the logical heap, each with the equation that unfolds it. -/
import Derived.Test.YtlcchghlhfamjaaRlmC
import Derived.Test.YtlcchghlhfamjaaProg
import Derived.KernelRfl
import Derived.Test.YtlcchghlhfamjaaTab
set_option maxRecDepth 100000
set_option linter.unusedVariables false
namespace Go.Proofs.Ytlcchghlhfamjaa.X
open Go Go.Rlm

/-- hamper/hamperlaw11.BitsPuts -/
noncomputable def f3 (k : Nat) (l0 : Sl) (L : LHeap) : R :=
  lcall Proofs.Try.prog Proofs.Ytlcchghlhfamjaa.X.T k 3 [Value.slice l0.a l0.n l0.c] L
/-- hamper/hamperlaw11.BitsTakes -/
noncomputable def f4 (k : Nat) (s0 : ByteArray) (l1 : Sl) (L : LHeap) : R :=
  lcall Proofs.Try.prog Proofs.Ytlcchghlhfamjaa.X.T k 4 [Value.string s0, Value.slice l1.a l1.n l1.c] L
/-- hamper/hamperlaw11.BitsBack -/
noncomputable def f6 (k : Nat) (l0 : Sl) (l1 : Sl) (L : LHeap) : R :=
  lcall Proofs.Try.prog Proofs.Ytlcchghlhfamjaa.X.T k 6 [Value.slice l0.a l0.n l0.c, Value.slice l1.a l1.n l1.c] L
/-- hamper/hamperlaw11.BitsJoined -/
noncomputable def f7 (k : Nat) (l0 : Sl) (l1 : Sl) (L : LHeap) : R :=
  lcall Proofs.Try.prog Proofs.Ytlcchghlhfamjaa.X.T k 7 [Value.slice l0.a l0.n l0.c, Value.slice l1.a l1.n l1.c] L
/-- hamper/hamperlaw11.BitsHalves -/
noncomputable def f8 (k : Nat) (n0 : Int) (n1 : Int) (n2 : Int) (s3 : ByteArray) (L : LHeap) : R :=
  lcall Proofs.Try.prog Proofs.Ytlcchghlhfamjaa.X.T k 8 [Value.int IntKind.u32 n0, Value.int IntKind.i64 n1, Value.int IntKind.i64 n2, Value.string s3] L
/-- (*hamper/bits.Writer).Put -/
noncomputable def f18 (k : Nat) (p0 : Option Addr) (n1 : Int) (n2 : Int) (L : LHeap) : R :=
  lcall Proofs.Try.prog Proofs.Ytlcchghlhfamjaa.X.T k 18 [Value.pointer p0, Value.int IntKind.u32 n1, Value.int IntKind.i64 n2] L
/-- (*hamper/hamperref11.Writer).Put -/
noncomputable def f19 (k : Nat) (p0 : Option Addr) (n1 : Int) (n2 : Int) (L : LHeap) : R :=
  lcall Proofs.Try.prog Proofs.Ytlcchghlhfamjaa.X.T k 19 [Value.pointer p0, Value.int IntKind.u32 n1, Value.int IntKind.i64 n2] L
/-- (*hamper/bits.Writer).Bits -/
noncomputable def f20 (k : Nat) (p0 : Option Addr) (L : LHeap) : R :=
  lcall Proofs.Try.prog Proofs.Ytlcchghlhfamjaa.X.T k 20 [Value.pointer p0] L
/-- (*hamper/hamperref11.Writer).Bits -/
noncomputable def f21 (k : Nat) (p0 : Option Addr) (L : LHeap) : R :=
  lcall Proofs.Try.prog Proofs.Ytlcchghlhfamjaa.X.T k 21 [Value.pointer p0] L
/-- (*hamper/bits.Writer).Bytes -/
noncomputable def f22 (k : Nat) (p0 : Option Addr) (L : LHeap) : R :=
  lcall Proofs.Try.prog Proofs.Ytlcchghlhfamjaa.X.T k 22 [Value.pointer p0] L
/-- (*hamper/hamperref11.Writer).Bytes -/
noncomputable def f23 (k : Nat) (p0 : Option Addr) (L : LHeap) : R :=
  lcall Proofs.Try.prog Proofs.Ytlcchghlhfamjaa.X.T k 23 [Value.pointer p0] L
/-- hamper/bits.Open -/
noncomputable def f24 (k : Nat) (s0 : ByteArray) (L : LHeap) : R :=
  lcall Proofs.Try.prog Proofs.Ytlcchghlhfamjaa.X.T k 24 [Value.string s0] L
/-- hamper/hamperref11.Open -/
noncomputable def f25 (k : Nat) (s0 : ByteArray) (L : LHeap) : R :=
  lcall Proofs.Try.prog Proofs.Ytlcchghlhfamjaa.X.T k 25 [Value.string s0] L
/-- (*hamper/bits.Reader).Take -/
noncomputable def f26 (k : Nat) (p0 : Option Addr) (n1 : Int) (L : LHeap) : R :=
  lcall Proofs.Try.prog Proofs.Ytlcchghlhfamjaa.X.T k 26 [Value.pointer p0, Value.int IntKind.i64 n1] L
/-- (*hamper/hamperref11.Reader).Take -/
noncomputable def f27 (k : Nat) (p0 : Option Addr) (n1 : Int) (L : LHeap) : R :=
  lcall Proofs.Try.prog Proofs.Ytlcchghlhfamjaa.X.T k 27 [Value.pointer p0, Value.int IntKind.i64 n1] L
/-- (*hamper/bits.Reader).Left -/
noncomputable def f28 (k : Nat) (p0 : Option Addr) (L : LHeap) : R :=
  lcall Proofs.Try.prog Proofs.Ytlcchghlhfamjaa.X.T k 28 [Value.pointer p0] L
/-- (*hamper/hamperref11.Reader).Left -/
noncomputable def f29 (k : Nat) (p0 : Option Addr) (L : LHeap) : R :=
  lcall Proofs.Try.prog Proofs.Ytlcchghlhfamjaa.X.T k 29 [Value.pointer p0] L
/-- (*hamper/bits.Reader).End -/
noncomputable def f30 (k : Nat) (p0 : Option Addr) (L : LHeap) : R :=
  lcall Proofs.Try.prog Proofs.Ytlcchghlhfamjaa.X.T k 30 [Value.pointer p0] L
/-- (*hamper/hamperref11.Reader).End -/
noncomputable def f31 (k : Nat) (p0 : Option Addr) (L : LHeap) : R :=
  lcall Proofs.Try.prog Proofs.Ytlcchghlhfamjaa.X.T k 31 [Value.pointer p0] L
/-- hamper/hamperlaw11.works -/
noncomputable def f32 (k : Nat) (L : LHeap) : R :=
  lcall Proofs.Try.prog Proofs.Ytlcchghlhfamjaa.X.T k 32 [] L
/-- (*hamper/bits.Reader).bit -/
noncomputable def f48 (k : Nat) (p0 : Option Addr) (n1 : Int) (L : LHeap) : R :=
  lcall Proofs.Try.prog Proofs.Ytlcchghlhfamjaa.X.T k 48 [Value.pointer p0, Value.int IntKind.i64 n1] L

/-- slots 0, 3, 4, 5 -/
noncomputable def f3_l6 (k : Nat) (j6 : Nat) (l38 : Sl) (r39 : Nat) (r40 : Nat) (n41 : Int) (L : LHeap) : R :=
  loopAt Proofs.Try.prog Proofs.Ytlcchghlhfamjaa.X.T 3 k [1, 1, 1, 1, 0, 1, 0] [] j6
  [(0, Value.slice l38.a l38.n l38.c), (3, Value.pointer (some (Addr.mk r39 0 none))), (4, Value.pointer (some (Addr.mk r40 0 none))), (5, Value.int IntKind.i64 n41)] L
theorem f3_eq (k : Nat) (l0 : Sl) (L : LHeap) : Proofs.Ytlcchghlhfamjaa.X.f3 (k + 1) l0 L =
  lif (decide ((↑l0.n : Int) > 400)) (some (LR.ret (Value.bool true) L))
  (Proofs.Ytlcchghlhfamjaa.X.f3_l6 k k l0 (List.length L) (List.length (L ++ [LBlk.cells [Value.slice none 0 0, Value.int IntKind.i64 0] 26 false 0])) 0
    (L ++ [LBlk.cells [Value.slice none 0 0, Value.int IntKind.i64 0] 26 false 0] ++ [LBlk.cells [Value.slice none 0 0] 29 false 0])) := by kernel_rfl
theorem f3_l6_eq (k : Nat) (j6 : Nat) (l0 : Sl) (r1 : Nat) (r2 : Nat) (n3 : Int) (L : LHeap) : Proofs.Ytlcchghlhfamjaa.X.f3_l6 k (j6 + 1) l0 r1 r2 n3 L =
  lif (decide (n3 < (↑l0.n : Int)))
  (obind (idx l0 n3 2) fun a4 =>
    obind (Option.bind (cell L (Addr.add a4 0)) (asI IntKind.u32)) fun n5 =>
      obind (idx l0 n3 2) fun a6 =>
        obind (Option.bind (cell L (Addr.add a6 1)) (asI IntKind.i64)) fun n7 =>
          lbindR (Proofs.Ytlcchghlhfamjaa.X.f18 k (some (Addr.mk r1 0 none)) n5 n7 L) fun v8 L9 =>
            obind (asI IntKind.i64 v8) fun n10 =>
              obind (idx l0 n3 2) fun a11 =>
                obind (Option.bind (cell L9 (Addr.add a11 0)) (asI IntKind.u32)) fun n12 =>
                  obind (Option.bind (cell L (Addr.add a11 0)) (asI IntKind.u32)) fun n13 =>
                    when (same (Value.int IntKind.u32 n12) (Value.int IntKind.u32 n13))
                      (obind (idx l0 n3 2) fun a14 =>
                        obind (Option.bind (cell L9 (Addr.add a14 1)) (asI IntKind.i64)) fun n15 =>
                          obind (Option.bind (cell L (Addr.add a14 1)) (asI IntKind.i64)) fun n16 =>
                            when (same (Value.int IntKind.i64 n15) (Value.int IntKind.i64 n16))
                              (lbindR (Proofs.Ytlcchghlhfamjaa.X.f19 k (some (Addr.mk r2 0 none)) n12 n15 L9) fun v17 L18 =>
                                obind (asI IntKind.i64 v17) fun n19 =>
                                  lif (n10 != n19) (some (LR.ret (Value.bool false) L18))
                                    (lbindR (Proofs.Ytlcchghlhfamjaa.X.f20 k (some (Addr.mk r1 0 none)) L18) fun v20 L21 =>
                                      obind (asI IntKind.i64 v20) fun n22 =>
                                        lbindR (Proofs.Ytlcchghlhfamjaa.X.f21 k (some (Addr.mk r2 0 none)) L21) fun v23 L24 =>
                                          obind (asI IntKind.i64 v23) fun n25 =>
                                            lif (n22 != n25) (some (LR.ret (Value.bool false) L24))
                                              (lbindR (Proofs.Ytlcchghlhfamjaa.X.f22 k (some (Addr.mk r1 0 none)) L24) fun v26 L27 =>
                                                obind (asS v26) fun s28 =>
                                                  lbindR (Proofs.Ytlcchghlhfamjaa.X.f23 k (some (Addr.mk r2 0 none)) L27) fun v29 L30 =>
                                                    obind (asS v29) fun s31 =>
                                                      lif (!ByteArray.toList s28 == ByteArray.toList s31) (some (LR.ret (Value.bool false) L30))
                                                        (Proofs.Ytlcchghlhfamjaa.X.f3_l6 k j6 l0 r1 r2 (IntKind.wrap IntKind.i64 (n3 + 1)) L30))))))
  (lbind (Proofs.Ytlcchghlhfamjaa.X.f22 k (some (Addr.mk r1 0 none)) L) fun v32 L33 =>
    obind (asS v32) fun s34 =>
      lbind (Proofs.Ytlcchghlhfamjaa.X.f23 k (some (Addr.mk r2 0 none)) L33) fun v35 L36 => obind (asS v35) fun s37 => some (LR.ret (Value.bool (ByteArray.toList s34 == ByteArray.toList s37)) L36)) := by kernel_rfl

/-- slots 1, 5, 6, 7 -/
noncomputable def f4_l6 (k : Nat) (j6 : Nat) (l50 : Sl) (p51 : Option Addr) (p52 : Option Addr) (n53 : Int) (L : LHeap) : R :=
  loopAt Proofs.Try.prog Proofs.Ytlcchghlhfamjaa.X.T 4 k [1, 1, 1, 1, 0, 1, 0] [] j6 [(1, Value.slice l50.a l50.n l50.c), (5, Value.pointer p51), (6, Value.pointer p52), (7, Value.int IntKind.i64 n53)]
  L
theorem f4_eq (k : Nat) (s0 : ByteArray) (l1 : Sl) (L : LHeap) : Proofs.Ytlcchghlhfamjaa.X.f4 (k + 1) s0 l1 L =
  lif (decide ((↑(ByteArray.size s0) : Int) > 5000)) (some (LR.ret (Value.bool true) L))
  (lif (decide ((↑l1.n : Int) > 1000)) (some (LR.ret (Value.bool true) L))
    (lbind (Proofs.Ytlcchghlhfamjaa.X.f24 k s0 L) fun v2 L3 =>
      obind (asP v2) fun x4 => lbind (Proofs.Ytlcchghlhfamjaa.X.f25 k s0 L3) fun v5 L6 => obind (asP v5) fun x7 => Proofs.Ytlcchghlhfamjaa.X.f4_l6 k k l1 x4 x7 0 L6)) := by kernel_rfl
theorem f4_l6_eq (k : Nat) (j6 : Nat) (l0 : Sl) (p1 : Option Addr) (p2 : Option Addr) (n3 : Int) (L : LHeap) : Proofs.Ytlcchghlhfamjaa.X.f4_l6 k (j6 + 1) l0 p1 p2 n3 L =
  lif (decide (n3 < (↑l0.n : Int)))
  (obind (idx l0 n3 1) fun a4 =>
    obind (Option.bind (cell L a4) (asI IntKind.i64)) fun n5 =>
      lbind (Proofs.Ytlcchghlhfamjaa.X.f26 k p1 n5 L) fun v6 L7 =>
        obind (tupL v6) fun x8 =>
          uncons x8 fun v9 vs10 =>
            obind (asI IntKind.u32 v9) fun n11 =>
              uncons vs10 fun v12 vs13 =>
                obind (asI IntKind.i64 v12) fun n14 =>
                  nilL vs13
                    (obind (idx l0 n3 1) fun a15 =>
                      obind (Option.bind (cell L7 a15) (asI IntKind.i64)) fun n16 =>
                        lbind (Proofs.Ytlcchghlhfamjaa.X.f27 k p2 n16 L7) fun v17 L18 =>
                          obind (tupL v17) fun x19 =>
                            uncons x19 fun v20 vs21 =>
                              obind (asI IntKind.u32 v20) fun n22 =>
                                uncons vs21 fun v23 vs24 =>
                                  obind (asI IntKind.i64 v23) fun n25 =>
                                    nilL vs24
                                      (lif (n11 != n22) (some (LR.ret (Value.bool false) L18))
                                        (lif (n14 != n25) (some (LR.ret (Value.bool false) L18))
                                          (lbind (Proofs.Ytlcchghlhfamjaa.X.f28 k p1 L18) fun v26 L27 =>
                                            obind (asI IntKind.i64 v26) fun n28 =>
                                              lbind (Proofs.Ytlcchghlhfamjaa.X.f29 k p2 L27) fun v29 L30 =>
                                                obind (asI IntKind.i64 v29) fun n31 =>
                                                  lif (n28 != n31) (some (LR.ret (Value.bool false) L30))
                                                    (lbind (Proofs.Ytlcchghlhfamjaa.X.f30 k p1 L30) fun v32 L33 =>
                                                      obind (asB v32) fun b34 =>
                                                        lbind (Proofs.Ytlcchghlhfamjaa.X.f31 k p2 L33) fun v35 L36 =>
                                                          obind (asB v35) fun b37 =>
                                                            lif (!b34 == b37) (some (LR.ret (Value.bool false) L36))
                                                              (Proofs.Ytlcchghlhfamjaa.X.f4_l6 k j6 l0 p1 p2 (IntKind.wrap IntKind.i64 (n3 + 1)) L36)))))))
  (lbind (Proofs.Ytlcchghlhfamjaa.X.f28 k p1 L) fun v38 L39 =>
    obind (asI IntKind.i64 v38) fun n40 =>
      lbind (Proofs.Ytlcchghlhfamjaa.X.f29 k p2 L39) fun v41 L42 =>
        obind (asI IntKind.i64 v41) fun n43 =>
          lif (n40 == n43)
            (lbind (Proofs.Ytlcchghlhfamjaa.X.f30 k p1 L42) fun v44 L45 =>
              obind (asB v44) fun b46 => lbind (Proofs.Ytlcchghlhfamjaa.X.f31 k p2 L45) fun v47 L48 => obind (asB v47) fun b49 => some (LR.ret (Value.bool (b46 == b49)) L48))
            (some (LR.ret (Value.bool false) L42))) := by kernel_rfl

/-- slots 0, 1, 5, 6, 7, 8 -/
noncomputable def f6_l7 (k : Nat) (j7 : Nat) (l24 : Sl) (l25 : Sl) (r26 : Nat) (l27 : Sl) (n28 : Int) (n29 : Int) (L : LHeap) : R :=
  loopAt Proofs.Try.prog Proofs.Ytlcchghlhfamjaa.X.T 6 k [1, 1, 1, 1, 1, 0, 1, 0] [] j7
  [(0, Value.slice l24.a l24.n l24.c), (1, Value.slice l25.a l25.n l25.c), (5, Value.pointer (some (Addr.mk r26 0 none))), (6, Value.slice l27.a l27.n l27.c), (7, Value.int IntKind.i64 n28),
    (8, Value.int IntKind.i64 n29)]
  L
/-- slots 1, 5, 6, 7, 9, 10 -/
noncomputable def f6_l16 (k : Nat) (j16 : Nat) (l30 : Sl) (r31 : Nat) (l32 : Sl) (n33 : Int) (p34 : Option Addr) (n35 : Int) (L : LHeap) : R :=
  loopAt Proofs.Try.prog Proofs.Ytlcchghlhfamjaa.X.T 6 k [1, 1, 1, 1, 1, 1, 1, 1, 0, 1, 0] [] j16
  [(1, Value.slice l30.a l30.n l30.c), (5, Value.pointer (some (Addr.mk r31 0 none))), (6, Value.slice l32.a l32.n l32.c), (7, Value.int IntKind.i64 n33), (9, Value.pointer p34),
    (10, Value.int IntKind.i64 n35)]
  L
/-- slots 1, 5, 13, 14, 15 -/
noncomputable def f6_l26 (k : Nat) (j26 : Nat) (l36 : Sl) (r37 : Nat) (p38 : Option Addr) (r39 : Nat) (n40 : Int) (L : LHeap) : R :=
  loopAt Proofs.Try.prog Proofs.Ytlcchghlhfamjaa.X.T 6 k [1, 1, 1, 1, 1, 1, 1, 1, 1, 1, 1, 1, 0, 1, 0] [] j26
  [(1, Value.slice l36.a l36.n l36.c), (5, Value.pointer (some (Addr.mk r37 0 none))), (13, Value.pointer p38), (14, Value.pointer (some (Addr.mk r39 0 none))), (15, Value.int IntKind.i64 n40)] L
/-- slots 5, 13, 14 -/
noncomputable def f6_l31 (k : Nat) (j31 : Nat) (r41 : Nat) (p42 : Option Addr) (r43 : Nat) (L : LHeap) : R :=
  loopAt Proofs.Try.prog Proofs.Ytlcchghlhfamjaa.X.T 6 k [1, 1, 1, 1, 1, 1, 1, 1, 1, 1, 1, 1, 1, 0, 0] [] j31
  [(5, Value.pointer (some (Addr.mk r41 0 none))), (13, Value.pointer p42), (14, Value.pointer (some (Addr.mk r43 0 none)))] L
theorem f6_eq (k : Nat) (l0 : Sl) (l1 : Sl) (L : LHeap) : Proofs.Ytlcchghlhfamjaa.X.f6 (k + 1) l0 l1 L =
  lbind (Proofs.Ytlcchghlhfamjaa.X.f32 k L) fun v2 L3 =>
  obind (asB v2) fun b4 =>
    lif (!b4) (lbind (Proofs.Ytlcchghlhfamjaa.X.f32 k L3) fun v5 L6 => obind (asB v5) fun b7 => some (LR.ret (Value.bool b7) L6))
      (lif (decide ((↑l0.n : Int) > 400)) (lbind (Proofs.Ytlcchghlhfamjaa.X.f32 k L3) fun v8 L9 => obind (asB v8) fun b10 => some (LR.ret (Value.bool b10) L9))
        (lif (decide ((↑l1.n : Int) > 1000)) (lbind (Proofs.Ytlcchghlhfamjaa.X.f32 k L3) fun v11 L12 => obind (asB v11) fun b13 => some (LR.ret (Value.bool b13) L12))
          (Proofs.Ytlcchghlhfamjaa.X.f6_l7 k k l0 l1 (List.length L3) (Sl.mk none 0 0) 0 0 (L3 ++ [LBlk.cells [Value.slice none 0 0, Value.int IntKind.i64 0] 26 false 0])))) := by kernel_rfl
theorem f6_l7_eq (k : Nat) (j7 : Nat) (l0 : Sl) (l1 : Sl) (r2 : Nat) (l3 : Sl) (n4 : Int) (n5 : Int) (L : LHeap) : Proofs.Ytlcchghlhfamjaa.X.f6_l7 k (j7 + 1) l0 l1 r2 l3 n4 n5 L =
  lif (decide (n5 < (↑l0.n : Int)))
  (obind (idx l0 n5 2) fun a6 =>
    obind (Option.bind (cell L (Addr.add a6 0)) (asI IntKind.u32)) fun n7 =>
      obind (idx l0 n5 2) fun a8 =>
        obind (Option.bind (cell L (Addr.add a8 1)) (asI IntKind.i64)) fun n9 =>
          lbindR (Proofs.Ytlcchghlhfamjaa.X.f18 k (some (Addr.mk r2 0 none)) n7 n9 L) fun v10 L11 =>
            obind (asI IntKind.i64 v10) fun n12 =>
              lif (n12 == 0)
                (obind (idx l0 n5 2) fun a13 =>
                  obind (Option.bind (cell L11 (Addr.add a13 0)) (asI IntKind.u32)) fun n14 =>
                    obind (Option.bind (cell L11 (Addr.add a13 1)) (asI IntKind.i64)) fun n15 =>
                      obind
                        (srcOf (L11 ++ [LBlk.cells [Value.int IntKind.u32 n14, Value.int IntKind.i64 n15] 34 false 0]) Proofs.Try.prog.types[34].size 1
                          (Value.slice (some (Addr.mk (List.length L11) 0 none)) 1 1))
                        fun x16 =>
                        obind (app (L11 ++ [LBlk.cells [Value.int IntKind.u32 n14, Value.int IntKind.i64 n15] 34 false 0]) 34 Proofs.Try.prog.types[34].size Proofs.Try.prog.types[34].bytes l3 1 x16)
                          fun x17 =>
                          obind (idx l0 n5 2) fun a18 =>
                            obind (Option.bind (cell x17.snd (Addr.add a18 1)) (asI IntKind.i64)) fun n19 =>
                              Proofs.Ytlcchghlhfamjaa.X.f6_l7 k j7 l0 l1 r2 x17.fst (IntKind.wrap IntKind.i64 (n4 + n19)) (IntKind.wrap IntKind.i64 (n5 + 1)) x17.snd)
                (Proofs.Ytlcchghlhfamjaa.X.f6_l7 k j7 l0 l1 r2 l3 n4 (IntKind.wrap IntKind.i64 (n5 + 1)) L11))
  (lbind (Proofs.Ytlcchghlhfamjaa.X.f20 k (some (Addr.mk r2 0 none)) L) fun v20 L21 =>
    obind (asI IntKind.i64 v20) fun n22 =>
      lif (n22 != n4) (some (LR.ret (Value.bool false) L21))
        (lbind (Proofs.Ytlcchghlhfamjaa.X.f22 k (some (Addr.mk r2 0 none)) L21) fun v23 L24 =>
          obind (asS v23) fun s25 =>
            lif ((↑(ByteArray.size s25) : Int) != IntKind.wrap IntKind.i64 (Int.tdiv (IntKind.wrap IntKind.i64 (n4 + 7)) 8)) (some (LR.ret (Value.bool false) L24))
              (lbind (Proofs.Ytlcchghlhfamjaa.X.f22 k (some (Addr.mk r2 0 none)) L24) fun v26 L27 =>
                obind (asS v26) fun s28 => lbind (Proofs.Ytlcchghlhfamjaa.X.f24 k s28 L27) fun v29 L30 => obind (asP v29) fun x31 => Proofs.Ytlcchghlhfamjaa.X.f6_l16 k k l1 r2 l3 n4 x31 0 L30))) := by kernel_rfl
theorem f6_l16_eq (k : Nat) (j16 : Nat) (l0 : Sl) (r1 : Nat) (l2 : Sl) (n3 : Int) (p4 : Option Addr) (n5 : Int) (L : LHeap) : Proofs.Ytlcchghlhfamjaa.X.f6_l16 k (j16 + 1) l0 r1 l2 n3 p4 n5 L =
  lif (decide (n5 < (↑l2.n : Int)))
  (obind (idx l2 n5 2) fun a6 =>
    obind (Option.bind (cell L (Addr.add a6 1)) (asI IntKind.i64)) fun n7 =>
      lbind (Proofs.Ytlcchghlhfamjaa.X.f26 k p4 n7 L) fun v8 L9 =>
        obind (tupL v8) fun x10 =>
          uncons x10 fun v11 vs12 =>
            obind (asI IntKind.u32 v11) fun n13 =>
              uncons vs12 fun v14 vs15 =>
                obind (asI IntKind.i64 v14) fun n16 =>
                  nilL vs15
                    (lif (n16 != 0) (some (LR.ret (Value.bool false) L9))
                      (obind (idx l2 n5 2) fun a17 =>
                        obind (Option.bind (cell L9 (Addr.add a17 0)) (asI IntKind.u32)) fun n18 =>
                          lif (n13 != n18) (some (LR.ret (Value.bool false) L9)) (Proofs.Ytlcchghlhfamjaa.X.f6_l16 k j16 l0 r1 l2 n3 p4 (IntKind.wrap IntKind.i64 (n5 + 1)) L9))))
  (lbind (Proofs.Ytlcchghlhfamjaa.X.f30 k p4 L) fun v19 L20 =>
    obind (asB v19) fun b21 =>
      lif (!b21) (some (LR.ret (Value.bool false) L20))
        (lbind (Proofs.Ytlcchghlhfamjaa.X.f28 k p4 L20) fun v22 L23 =>
          obind (asI IntKind.i64 v22) fun n24 =>
            lbind (Proofs.Ytlcchghlhfamjaa.X.f22 k (some (Addr.mk r1 0 none)) L23) fun v25 L26 =>
              obind (asS v25) fun s27 =>
                lif (n24 != IntKind.wrap IntKind.i64 (IntKind.wrap IntKind.i64 (8 * (↑(ByteArray.size s27) : Int)) - n3)) (some (LR.ret (Value.bool false) L26))
                  (lbind (Proofs.Ytlcchghlhfamjaa.X.f22 k (some (Addr.mk r1 0 none)) L26) fun v28 L29 =>
                    obind (asS v28) fun s30 =>
                      lbind (Proofs.Ytlcchghlhfamjaa.X.f24 k s30 L29) fun v31 L32 =>
                        obind (asP v31) fun x33 =>
                          Proofs.Ytlcchghlhfamjaa.X.f6_l26 k k l0 r1 x33 (List.length L32) 0 (L32 ++ [LBlk.cells [Value.slice none 0 0, Value.int IntKind.i64 0] 26 false 0])))) := by kernel_rfl
theorem f6_l26_eq (k : Nat) (j26 : Nat) (l0 : Sl) (r1 : Nat) (p2 : Option Addr) (r3 : Nat) (n4 : Int) (L : LHeap) : Proofs.Ytlcchghlhfamjaa.X.f6_l26 k (j26 + 1) l0 r1 p2 r3 n4 L =
  lif (decide (n4 < (↑l0.n : Int)))
  (obind (idx l0 n4 1) fun a5 =>
    obind (Option.bind (cell L a5) (asI IntKind.i64)) fun n6 =>
      lbind (Proofs.Ytlcchghlhfamjaa.X.f26 k p2 n6 L) fun v7 L8 =>
        obind (tupL v7) fun x9 =>
          uncons x9 fun v10 vs11 =>
            obind (asI IntKind.u32 v10) fun n12 =>
              uncons vs11 fun v13 vs14 =>
                obind (asI IntKind.i64 v13) fun n15 =>
                  nilL vs14
                    (lif (n15 == 0)
                      (obind (idx l0 n4 1) fun a16 =>
                        obind (Option.bind (cell L8 a16) (asI IntKind.i64)) fun n17 =>
                          lbind (Proofs.Ytlcchghlhfamjaa.X.f18 k (some (Addr.mk r3 0 none)) n12 n17 L8) fun v18 L19 =>
                            obind (asI IntKind.i64 v18) fun n20 =>
                              lif (n20 != 0) (some (LR.ret (Value.bool false) L19)) (Proofs.Ytlcchghlhfamjaa.X.f6_l26 k j26 l0 r1 p2 r3 (IntKind.wrap IntKind.i64 (n4 + 1)) L19))
                      (Proofs.Ytlcchghlhfamjaa.X.f6_l26 k j26 l0 r1 p2 r3 (IntKind.wrap IntKind.i64 (n4 + 1)) L8)))
  (Proofs.Ytlcchghlhfamjaa.X.f6_l31 k k r1 p2 r3 L) := by kernel_rfl
theorem f6_l31_eq (k : Nat) (j31 : Nat) (r0 : Nat) (p1 : Option Addr) (r2 : Nat) (L : LHeap) : Proofs.Ytlcchghlhfamjaa.X.f6_l31 k (j31 + 1) r0 p1 r2 L =
  lbind (Proofs.Ytlcchghlhfamjaa.X.f28 k p1 L) fun v3 L4 =>
  obind (asI IntKind.i64 v3) fun n5 =>
    lif (decide (n5 > 0))
      (lbind (Proofs.Ytlcchghlhfamjaa.X.f26 k p1 1 L4) fun v6 L7 =>
        obind (tupL v6) fun x8 =>
          uncons x8 fun v9 vs10 =>
            obind (asI IntKind.u32 v9) fun n11 =>
              uncons vs10 fun v12 vs13 =>
                obind (asI IntKind.i64 v12) fun n14 =>
                  nilL vs13
                    (lif (n14 != 0) (some (LR.ret (Value.bool false) L7))
                      (lbind (Proofs.Ytlcchghlhfamjaa.X.f18 k (some (Addr.mk r2 0 none)) n11 1 L7) fun v15 L16 =>
                        obind (asI IntKind.i64 v15) fun n17 => lif (n17 != 0) (some (LR.ret (Value.bool false) L16)) (Proofs.Ytlcchghlhfamjaa.X.f6_l31 k j31 r0 p1 r2 L16))))
      (lbind (Proofs.Ytlcchghlhfamjaa.X.f22 k (some (Addr.mk r2 0 none)) L4) fun v18 L19 =>
        obind (asS v18) fun s20 =>
          lbind (Proofs.Ytlcchghlhfamjaa.X.f22 k (some (Addr.mk r0 0 none)) L19) fun v21 L22 =>
            obind (asS v21) fun s23 => some (LR.ret (Value.bool (ByteArray.toList s20 == ByteArray.toList s23)) L22)) := by kernel_rfl

/-- slots 0, 1, 5, 6, 7, 8 -/
noncomputable def f7_l7 (k : Nat) (j7 : Nat) (l50 : Sl) (l51 : Sl) (r52 : Nat) (r53 : Nat) (r54 : Nat) (n55 : Int) (L : LHeap) : R :=
  loopAt Proofs.Try.prog Proofs.Ytlcchghlhfamjaa.X.T 7 k [1, 1, 1, 1, 1, 0, 1, 0] [] j7
  [(0, Value.slice l50.a l50.n l50.c), (1, Value.slice l51.a l51.n l51.c), (5, Value.pointer (some (Addr.mk r52 0 none))), (6, Value.pointer (some (Addr.mk r53 0 none))),
    (7, Value.pointer (some (Addr.mk r54 0 none))), (8, Value.int IntKind.i64 n55)]
  L
/-- slots 1, 5, 6, 7 -/
noncomputable def f7_l11 (k : Nat) (j11 : Nat) (l56 : Sl) (r57 : Nat) (r58 : Nat) (r59 : Nat) (L : LHeap) : R :=
  loopAt Proofs.Try.prog Proofs.Ytlcchghlhfamjaa.X.T 7 k [1, 1, 1, 1, 1, 1, 0, 0] [] j11
  [(1, Value.slice l56.a l56.n l56.c), (5, Value.pointer (some (Addr.mk r57 0 none))), (6, Value.pointer (some (Addr.mk r58 0 none))), (7, Value.pointer (some (Addr.mk r59 0 none)))] L
/-- slots 1, 5, 6, 7, 9 -/
noncomputable def f7_l15 (k : Nat) (j15 : Nat) (l60 : Sl) (r61 : Nat) (r62 : Nat) (r63 : Nat) (n64 : Int) (L : LHeap) : R :=
  loopAt Proofs.Try.prog Proofs.Ytlcchghlhfamjaa.X.T 7 k [1, 1, 1, 1, 1, 1, 1, 0, 1, 0] [] j15
  [(1, Value.slice l60.a l60.n l60.c), (5, Value.pointer (some (Addr.mk r61 0 none))), (6, Value.pointer (some (Addr.mk r62 0 none))), (7, Value.pointer (some (Addr.mk r63 0 none))),
    (9, Value.int IntKind.i64 n64)]
  L
theorem f7_eq (k : Nat) (l0 : Sl) (l1 : Sl) (L : LHeap) : Proofs.Ytlcchghlhfamjaa.X.f7 (k + 1) l0 l1 L =
  lbind (Proofs.Ytlcchghlhfamjaa.X.f32 k L) fun v2 L3 =>
  obind (asB v2) fun b4 =>
    lif (!b4) (lbind (Proofs.Ytlcchghlhfamjaa.X.f32 k L3) fun v5 L6 => obind (asB v5) fun b7 => some (LR.ret (Value.bool b7) L6))
      (lif (decide ((↑l0.n : Int) > 300)) (lbind (Proofs.Ytlcchghlhfamjaa.X.f32 k L3) fun v8 L9 => obind (asB v8) fun b10 => some (LR.ret (Value.bool b10) L9))
        (lif (decide ((↑l1.n : Int) > 300)) (lbind (Proofs.Ytlcchghlhfamjaa.X.f32 k L3) fun v11 L12 => obind (asB v11) fun b13 => some (LR.ret (Value.bool b13) L12))
          (Proofs.Ytlcchghlhfamjaa.X.f7_l7 k k l0 l1 (List.length L3) (List.length (L3 ++ [LBlk.cells [Value.slice none 0 0, Value.int IntKind.i64 0] 26 false 0]))
            (List.length (L3 ++ [LBlk.cells [Value.slice none 0 0, Value.int IntKind.i64 0] 26 false 0] ++ [LBlk.cells [Value.slice none 0 0, Value.int IntKind.i64 0] 26 false 0])) 0
            (L3 ++ [LBlk.cells [Value.slice none 0 0, Value.int IntKind.i64 0] 26 false 0] ++ [LBlk.cells [Value.slice none 0 0, Value.int IntKind.i64 0] 26 false 0] ++
              [LBlk.cells [Value.slice none 0 0, Value.int IntKind.i64 0] 26 false 0])))) := by kernel_rfl
theorem f7_l7_eq (k : Nat) (j7 : Nat) (l0 : Sl) (l1 : Sl) (r2 : Nat) (r3 : Nat) (r4 : Nat) (n5 : Int) (L : LHeap) : Proofs.Ytlcchghlhfamjaa.X.f7_l7 k (j7 + 1) l0 l1 r2 r3 r4 n5 L =
  lif (decide (n5 < (↑l0.n : Int)))
  (obind (idx l0 n5 2) fun a6 =>
    obind (Option.bind (cell L (Addr.add a6 0)) (asI IntKind.u32)) fun n7 =>
      obind (idx l0 n5 2) fun a8 =>
        obind (Option.bind (cell L (Addr.add a8 1)) (asI IntKind.i64)) fun n9 =>
          lbindR (Proofs.Ytlcchghlhfamjaa.X.f18 k (some (Addr.mk r2 0 none)) n7 n9 L) fun v10 L11 =>
            obind (asI IntKind.i64 v10) fun n12 =>
              obind (idx l0 n5 2) fun a13 =>
                obind (Option.bind (cell L11 (Addr.add a13 0)) (asI IntKind.u32)) fun n14 =>
                  obind (Option.bind (cell L (Addr.add a13 0)) (asI IntKind.u32)) fun n15 =>
                    when (same (Value.int IntKind.u32 n14) (Value.int IntKind.u32 n15))
                      (obind (idx l0 n5 2) fun a16 =>
                        obind (Option.bind (cell L11 (Addr.add a16 1)) (asI IntKind.i64)) fun n17 =>
                          obind (Option.bind (cell L (Addr.add a16 1)) (asI IntKind.i64)) fun n18 =>
                            when (same (Value.int IntKind.i64 n17) (Value.int IntKind.i64 n18))
                              (lbindR (Proofs.Ytlcchghlhfamjaa.X.f18 k (some (Addr.mk r4 0 none)) n14 n17 L11) fun v19 L20 =>
                                obind (asI IntKind.i64 v19) fun n21 =>
                                  lif (n12 != n21) (some (LR.ret (Value.bool false) L20)) (Proofs.Ytlcchghlhfamjaa.X.f7_l7 k j7 l0 l1 r2 r3 r4 (IntKind.wrap IntKind.i64 (n5 + 1)) L20))))
  (Proofs.Ytlcchghlhfamjaa.X.f7_l11 k k l1 r2 r3 r4 L) := by kernel_rfl
theorem f7_l11_eq (k : Nat) (j11 : Nat) (l0 : Sl) (r1 : Nat) (r2 : Nat) (r3 : Nat) (L : LHeap) : Proofs.Ytlcchghlhfamjaa.X.f7_l11 k (j11 + 1) l0 r1 r2 r3 L =
  lbind (Proofs.Ytlcchghlhfamjaa.X.f20 k (some (Addr.mk r1 0 none)) L) fun v4 L5 =>
  obind (asI IntKind.i64 v4) fun n6 =>
    lif (Int.tmod n6 8 != 0)
      (lbind (Proofs.Ytlcchghlhfamjaa.X.f18 k (some (Addr.mk r1 0 none)) 1 1 L5) fun v7 L8 =>
        obind (asI IntKind.i64 v7) fun n9 =>
          lif (n9 != 0) (some (LR.ret (Value.bool false) L8))
            (lbind (Proofs.Ytlcchghlhfamjaa.X.f18 k (some (Addr.mk r3 0 none)) 1 1 L8) fun v10 L11 =>
              obind (asI IntKind.i64 v10) fun n12 => lif (n12 != 0) (some (LR.ret (Value.bool false) L11)) (Proofs.Ytlcchghlhfamjaa.X.f7_l11 k j11 l0 r1 r2 r3 L11)))
      (Proofs.Ytlcchghlhfamjaa.X.f7_l15 k k l0 r1 r2 r3 0 L5) := by kernel_rfl
theorem f7_l15_eq (k : Nat) (j15 : Nat) (l0 : Sl) (r1 : Nat) (r2 : Nat) (r3 : Nat) (n4 : Int) (L : LHeap) : Proofs.Ytlcchghlhfamjaa.X.f7_l15 k (j15 + 1) l0 r1 r2 r3 n4 L =
  lif (decide (n4 < (↑l0.n : Int)))
  (lbind (Proofs.Ytlcchghlhfamjaa.X.f22 k (some (Addr.mk r3 0 none)) L) fun v5 L6 =>
    obind (asS v5) fun s7 =>
      lbind (Proofs.Ytlcchghlhfamjaa.X.f20 k (some (Addr.mk r3 0 none)) L6) fun v8 L9 =>
        obind (asI IntKind.i64 v8) fun n10 =>
          obind (idx l0 n4 2) fun a11 =>
            obind (Option.bind (cell L9 (Addr.add a11 0)) (asI IntKind.u32)) fun n12 =>
              obind (idx l0 n4 2) fun a13 =>
                obind (Option.bind (cell L9 (Addr.add a13 1)) (asI IntKind.i64)) fun n14 =>
                  lbindR (Proofs.Ytlcchghlhfamjaa.X.f18 k (some (Addr.mk r2 0 none)) n12 n14 L9) fun v15 L16 =>
                    obind (asI IntKind.i64 v15) fun n17 =>
                      obind (idx l0 n4 2) fun a18 =>
                        obind (Option.bind (cell L16 (Addr.add a18 0)) (asI IntKind.u32)) fun n19 =>
                          obind (Option.bind (cell L9 (Addr.add a18 0)) (asI IntKind.u32)) fun n20 =>
                            when (same (Value.int IntKind.u32 n19) (Value.int IntKind.u32 n20))
                              (obind (idx l0 n4 2) fun a21 =>
                                obind (Option.bind (cell L16 (Addr.add a21 1)) (asI IntKind.i64)) fun n22 =>
                                  obind (Option.bind (cell L9 (Addr.add a21 1)) (asI IntKind.i64)) fun n23 =>
                                    when (same (Value.int IntKind.i64 n22) (Value.int IntKind.i64 n23))
                                      (lbindR (Proofs.Ytlcchghlhfamjaa.X.f18 k (some (Addr.mk r3 0 none)) n19 n22 L16) fun v24 L25 =>
                                        obind (asI IntKind.i64 v24) fun n26 =>
                                          lif (n17 != n26) (some (LR.ret (Value.bool false) L25))
                                            (lbindR (Proofs.Ytlcchghlhfamjaa.X.f22 k (some (Addr.mk r3 0 none)) L25) fun v27 L28 =>
                                              obind (asS v27) fun s29 =>
                                                obind (subS s29 none (some (IntKind.wrap IntKind.i64 (Int.tdiv n10 8)))) fun s30 =>
                                                  obind (subS s7 none (some (IntKind.wrap IntKind.i64 (Int.tdiv n10 8)))) fun s31 =>
                                                    lif (!ByteArray.toList s30 == ByteArray.toList s31) (some (LR.ret (Value.bool false) L28))
                                                      (Proofs.Ytlcchghlhfamjaa.X.f7_l15 k j15 l0 r1 r2 r3 (IntKind.wrap IntKind.i64 (n4 + 1)) L28)))))
  (lbind (Proofs.Ytlcchghlhfamjaa.X.f22 k (some (Addr.mk r3 0 none)) L) fun v32 L33 =>
    obind (asS v32) fun s34 =>
      lbind (Proofs.Ytlcchghlhfamjaa.X.f22 k (some (Addr.mk r1 0 none)) L33) fun v35 L36 =>
        obind (asS v35) fun s37 =>
          lbind (Proofs.Ytlcchghlhfamjaa.X.f22 k (some (Addr.mk r2 0 none)) L36) fun v38 L39 =>
            obind (asS v38) fun s40 =>
              when (decide ((↑(ByteArray.size s37 + ByteArray.size s40) : Int) ≤ maxI))
                (lif (ByteArray.toList s34 == ByteArray.toList (s37 ++ s40))
                  (lbind (Proofs.Ytlcchghlhfamjaa.X.f20 k (some (Addr.mk r3 0 none)) L39) fun v41 L42 =>
                    obind (asI IntKind.i64 v41) fun n43 =>
                      lbind (Proofs.Ytlcchghlhfamjaa.X.f20 k (some (Addr.mk r1 0 none)) L42) fun v44 L45 =>
                        obind (asI IntKind.i64 v44) fun n46 =>
                          lbind (Proofs.Ytlcchghlhfamjaa.X.f20 k (some (Addr.mk r2 0 none)) L45) fun v47 L48 =>
                            obind (asI IntKind.i64 v47) fun n49 => some (LR.ret (Value.bool (n43 == IntKind.wrap IntKind.i64 (n46 + n49))) L48))
                  (some (LR.ret (Value.bool false) L39)))) := by kernel_rfl

/-- slots 1, 2, 11, 12 -/
noncomputable def f8_l9 (k : Nat) (j9 : Nat) (n46 : Int) (n47 : Int) (p48 : Option Addr) (p49 : Option Addr) (L : LHeap) : R :=
  loopAt Proofs.Try.prog Proofs.Ytlcchghlhfamjaa.X.T 8 k [1, 1, 1, 1, 1, 1, 1, 0, 0] [] j9
  [(1, Value.int IntKind.i64 n46), (2, Value.int IntKind.i64 n47), (11, Value.pointer p48), (12, Value.pointer p49)] L
theorem f8_eq (k : Nat) (n0 : Int) (n1 : Int) (n2 : Int) (s3 : ByteArray) (L : LHeap) : Proofs.Ytlcchghlhfamjaa.X.f8 (k + 1) n0 n1 n2 s3 L =
  lbind (Proofs.Ytlcchghlhfamjaa.X.f32 k L) fun v4 L5 =>
  obind (asB v4) fun b6 =>
    lif (!b6) (lbind (Proofs.Ytlcchghlhfamjaa.X.f32 k L5) fun v7 L8 => obind (asB v7) fun b9 => some (LR.ret (Value.bool b9) L8))
      (lif (decide (n1 < 0)) (lbind (Proofs.Ytlcchghlhfamjaa.X.f32 k L5) fun v10 L11 => obind (asB v10) fun b12 => some (LR.ret (Value.bool b12) L11))
        (lif (decide (n1 > 32)) (lbind (Proofs.Ytlcchghlhfamjaa.X.f32 k L5) fun v13 L14 => obind (asB v13) fun b15 => some (LR.ret (Value.bool b15) L14))
          (lif (decide (n2 < 0)) (lbind (Proofs.Ytlcchghlhfamjaa.X.f32 k L5) fun v16 L17 => obind (asB v16) fun b18 => some (LR.ret (Value.bool b18) L17))
            (lif (decide (n2 > n1)) (lbind (Proofs.Ytlcchghlhfamjaa.X.f32 k L5) fun v19 L20 => obind (asB v19) fun b21 => some (LR.ret (Value.bool b21) L20))
              (when (!decide (IntKind.wrap IntKind.u64 n1 < 0))
                (lif (Int.fdiv (IntKind.wrap IntKind.u64 n0) (2 ^ min (Int.toNat (IntKind.wrap IntKind.u64 n1)) 64) != 0)
                  (lbind (Proofs.Ytlcchghlhfamjaa.X.f32 k L5) fun v22 L23 => obind (asB v22) fun b24 => some (LR.ret (Value.bool b24) L23))
                  (lif (decide ((↑(ByteArray.size s3) : Int) > 2000)) (lbind (Proofs.Ytlcchghlhfamjaa.X.f32 k L5) fun v25 L26 => obind (asB v25) fun b27 => some (LR.ret (Value.bool b27) L26))
                    (lbind
                      (Proofs.Ytlcchghlhfamjaa.X.f18 k (some (Addr.mk (List.length L5) 0 none)) n0 n1
                        (L5 ++ [LBlk.cells [Value.slice none 0 0, Value.int IntKind.i64 0] 26 false 0] ++ [LBlk.cells [Value.slice none 0 0, Value.int IntKind.i64 0] 26 false 0]))
                      fun v28 L29 =>
                      obind (asI IntKind.i64 v28) fun n30 =>
                        lif (n30 != 0) (some (LR.ret (Value.bool false) L29))
                          (when (!decide (IntKind.wrap IntKind.u64 n2 < 0))
                            (lbind
                              (Proofs.Ytlcchghlhfamjaa.X.f18 k (some (Addr.mk (List.length (L5 ++ [LBlk.cells [Value.slice none 0 0, Value.int IntKind.i64 0] 26 false 0])) 0 none))
                                (IntKind.wrap IntKind.u32 (Int.fdiv (IntKind.wrap IntKind.u64 n0) (2 ^ min (Int.toNat (IntKind.wrap IntKind.u64 n2)) 64))) (IntKind.wrap IntKind.i64 (n1 - n2)) L29)
                              fun v31 L32 =>
                              obind (asI IntKind.i64 v31) fun n33 =>
                                lif (n33 != 0) (some (LR.ret (Value.bool false) L32))
                                  (when (!decide (IntKind.wrap IntKind.u64 n2 < 0))
                                    (when (!decide (IntKind.wrap IntKind.u64 (1 * 2 ^ min (Int.toNat (IntKind.wrap IntKind.u64 n2)) 64) = 0))
                                      (lbind
                                        (Proofs.Ytlcchghlhfamjaa.X.f18 k (some (Addr.mk (List.length (L5 ++ [LBlk.cells [Value.slice none 0 0, Value.int IntKind.i64 0] 26 false 0])) 0 none))
                                          (IntKind.wrap IntKind.u32 (Int.tmod (IntKind.wrap IntKind.u64 n0) (IntKind.wrap IntKind.u64 (1 * 2 ^ min (Int.toNat (IntKind.wrap IntKind.u64 n2)) 64)))) n2
                                          L32)
                                        fun v34 L35 =>
                                        obind (asI IntKind.i64 v34) fun n36 =>
                                          lif (n36 != 0) (some (LR.ret (Value.bool false) L35))
                                            (lbind (Proofs.Ytlcchghlhfamjaa.X.f22 k (some (Addr.mk (List.length L5) 0 none)) L35) fun v37 L38 =>
                                              obind (asS v37) fun s39 =>
                                                lbind
                                                  (Proofs.Ytlcchghlhfamjaa.X.f22 k (some (Addr.mk (List.length (L5 ++ [LBlk.cells [Value.slice none 0 0, Value.int IntKind.i64 0] 26 false 0])) 0 none))
                                                    L38)
                                                  fun v40 L41 =>
                                                  obind (asS v40) fun s42 =>
                                                    lif (!ByteArray.toList s39 == ByteArray.toList s42) (some (LR.ret (Value.bool false) L41))
                                                      (lbind (Proofs.Ytlcchghlhfamjaa.X.f24 k s3 L41) fun v43 L44 =>
                                                        obind (asP v43) fun x45 =>
                                                          lbind (Proofs.Ytlcchghlhfamjaa.X.f24 k s3 L44) fun v46 L47 =>
                                                            obind (asP v46) fun x48 => Proofs.Ytlcchghlhfamjaa.X.f8_l9 k k n1 n2 x45 x48 L47))))))))))))))) := by kernel_rfl
theorem f8_l9_eq (k : Nat) (j9 : Nat) (n0 : Int) (n1 : Int) (p2 : Option Addr) (p3 : Option Addr) (L : LHeap) : Proofs.Ytlcchghlhfamjaa.X.f8_l9 k (j9 + 1) n0 n1 p2 p3 L =
  lbind (Proofs.Ytlcchghlhfamjaa.X.f28 k p2 L) fun v4 L5 =>
  obind (asI IntKind.i64 v4) fun n6 =>
    lif (decide (n6 ≥ n0))
      (lif (decide (n0 > 0))
        (lbind (Proofs.Ytlcchghlhfamjaa.X.f26 k p2 n0 L5) fun v7 L8 =>
          obind (tupL v7) fun x9 =>
            uncons x9 fun v10 vs11 =>
              obind (asI IntKind.u32 v10) fun n12 =>
                uncons vs11 fun v13 vs14 =>
                  obind (asI IntKind.i64 v13) fun n15 =>
                    nilL vs14
                      (lbind (Proofs.Ytlcchghlhfamjaa.X.f26 k p3 (IntKind.wrap IntKind.i64 (n0 - n1)) L8) fun v16 L17 =>
                        obind (tupL v16) fun x18 =>
                          uncons x18 fun v19 vs20 =>
                            obind (asI IntKind.u32 v19) fun n21 =>
                              uncons vs20 fun v22 vs23 =>
                                obind (asI IntKind.i64 v22) fun n24 =>
                                  nilL vs23
                                    (lbind (Proofs.Ytlcchghlhfamjaa.X.f26 k p3 n1 L17) fun v25 L26 =>
                                      obind (tupL v25) fun x27 =>
                                        uncons x27 fun v28 vs29 =>
                                          obind (asI IntKind.u32 v28) fun n30 =>
                                            uncons vs29 fun v31 vs32 =>
                                              obind (asI IntKind.i64 v31) fun n33 =>
                                                nilL vs32
                                                  (lif (n15 != 0) (some (LR.ret (Value.bool false) L26))
                                                    (lif (n24 != 0) (some (LR.ret (Value.bool false) L26))
                                                      (lif (n33 != 0) (some (LR.ret (Value.bool false) L26))
                                                        (when (!decide (IntKind.wrap IntKind.u64 n1 < 0))
                                                          (lif
                                                            (IntKind.wrap IntKind.u64 n12 !=
                                                              bitop BinOp.or IntKind.u64
                                                                (IntKind.wrap IntKind.u64 (IntKind.wrap IntKind.u64 n21 * 2 ^ min (Int.toNat (IntKind.wrap IntKind.u64 n1)) 64))
                                                                (IntKind.wrap IntKind.u64 n30))
                                                            (some (LR.ret (Value.bool false) L26)) (Proofs.Ytlcchghlhfamjaa.X.f8_l9 k j9 n0 n1 p2 p3 L26)))))))))
        (lbind (Proofs.Ytlcchghlhfamjaa.X.f28 k p2 L5) fun v34 L35 =>
          obind (asI IntKind.i64 v34) fun n36 => lbind (Proofs.Ytlcchghlhfamjaa.X.f28 k p3 L35) fun v37 L38 => obind (asI IntKind.i64 v37) fun n39 => some (LR.ret (Value.bool (n36 == n39)) L38)))
      (lbind (Proofs.Ytlcchghlhfamjaa.X.f28 k p2 L5) fun v40 L41 =>
        obind (asI IntKind.i64 v40) fun n42 => lbind (Proofs.Ytlcchghlhfamjaa.X.f28 k p3 L41) fun v43 L44 => obind (asI IntKind.i64 v43) fun n45 => some (LR.ret (Value.bool (n42 == n45)) L44)) := by kernel_rfl

/-- slots 0, 1, 2, 26, 27 -/
noncomputable def f18_l6 (k : Nat) (j6 : Nat) (p41 : Option Addr) (n42 : Int) (n43 : Int) (n44 : Int) (n45 : Int) (L : LHeap) : R :=
  loopAt Proofs.Try.prog Proofs.Ytlcchghlhfamjaa.X.T 18 k [1, 1, 0, 1, 0] [] j6
  [(0, Value.pointer p41), (1, Value.int IntKind.u32 n42), (2, Value.int IntKind.i64 n43), (26, Value.int IntKind.i64 n44), (27, Value.int IntKind.i64 n45)] L
theorem f18_eq (k : Nat) (p0 : Option Addr) (n1 : Int) (n2 : Int) (L : LHeap) : Proofs.Ytlcchghlhfamjaa.X.f18 (k + 1) p0 n1 n2 L =
  lif (Option.isNone p0) (some (LR.ret (Value.int IntKind.i64 2) L))
  (lif (decide (n2 < 0)) (some (LR.ret (Value.int IntKind.i64 1) L))
    (lif (decide (n2 > 32)) (some (LR.ret (Value.int IntKind.i64 1) L))
      (when (!decide (n2 < 0))
        (lif (Int.fdiv (IntKind.wrap IntKind.u64 n1) (2 ^ min (Int.toNat n2) 64) != 0) (some (LR.ret (Value.int IntKind.i64 1) L)) (Proofs.Ytlcchghlhfamjaa.X.f18_l6 k k p0 n1 n2 n2 0 L))))) := by kernel_rfl
theorem f18_l6_eq (k : Nat) (j6 : Nat) (p0 : Option Addr) (n1 : Int) (n2 : Int) (n3 : Int) (n4 : Int) (L : LHeap) : Proofs.Ytlcchghlhfamjaa.X.f18_l6 k (j6 + 1) p0 n1 n2 n3 n4 L =
  lif (decide (n4 < n3))
  (obind p0 fun a5 =>
    obind (Option.bind (cell L (Addr.add a5 1)) (asI IntKind.i64)) fun n6 =>
      lif (Int.tmod n6 8 == 0)
        (obind p0 fun a7 =>
          obind (Option.bind (cell L (Addr.add a7 0)) asSl) fun l8 =>
            obind (srcOf (L ++ [LBlk.cells [Value.int IntKind.u8 0] 5 false 0]) Proofs.Try.prog.types[5].size 1 (Value.slice (some (Addr.mk (List.length L) 0 none)) 1 1)) fun x9 =>
              obind (app (L ++ [LBlk.cells [Value.int IntKind.u8 0] 5 false 0]) 5 Proofs.Try.prog.types[5].size Proofs.Try.prog.types[5].bytes l8 1 x9) fun x10 =>
                obind p0 fun a11 =>
                  obind (stores x10.snd (Addr.add a11 0) [Value.slice x10.fst.a x10.fst.n x10.fst.c]) fun L12 =>
                    when (!decide (IntKind.wrap IntKind.i64 (IntKind.wrap IntKind.i64 (n2 - 1) - n4) < 0))
                      (obind p0 fun a13 =>
                        obind (Option.bind (cell L12 (Addr.add a13 0)) asSl) fun l14 =>
                          obind p0 fun a15 =>
                            obind (Option.bind (cell L12 (Addr.add a15 0)) asSl) fun l16 =>
                              obind (idx l14 (IntKind.wrap IntKind.i64 ((↑l16.n : Int) - 1)) 1) fun a17 =>
                                obind (Option.bind (cell L12 a17) (asI IntKind.u8)) fun n18 =>
                                  obind p0 fun a19 =>
                                    obind (Option.bind (cell L12 (Addr.add a19 1)) (asI IntKind.i64)) fun n20 =>
                                      when (!decide (IntKind.wrap IntKind.i64 (7 - Int.tmod n20 8) < 0))
                                        (obind (idx l14 (IntKind.wrap IntKind.i64 ((↑l16.n : Int) - 1)) 1) fun a21 =>
                                          obind
                                            (stores L12 a21
                                              [Value.int IntKind.u8
                                                  (bitop BinOp.or IntKind.u8 n18
                                                    (IntKind.wrap IntKind.u8
                                                      (IntKind.wrap IntKind.u8
                                                          (bitop BinOp.and IntKind.u32 (Int.fdiv n1 (2 ^ min (Int.toNat (IntKind.wrap IntKind.i64 (IntKind.wrap IntKind.i64 (n2 - 1) - n4))) 32)) 1) *
                                                        2 ^ min (Int.toNat (IntKind.wrap IntKind.i64 (7 - Int.tmod n20 8))) 8)))])
                                            fun L22 =>
                                            obind p0 fun a23 =>
                                              obind (Option.bind (cell L22 (Addr.add a23 1)) (asI IntKind.i64)) fun n24 =>
                                                obind p0 fun a25 =>
                                                  obind (stores L22 (Addr.add a25 1) [Value.int IntKind.i64 (IntKind.wrap IntKind.i64 (n24 + 1))]) fun L26 =>
                                                    Proofs.Ytlcchghlhfamjaa.X.f18_l6 k j6 p0 n1 n2 n3 (IntKind.wrap IntKind.i64 (n4 + 1)) L26)))
        (when (!decide (IntKind.wrap IntKind.i64 (IntKind.wrap IntKind.i64 (n2 - 1) - n4) < 0))
          (obind p0 fun a27 =>
            obind (Option.bind (cell L (Addr.add a27 0)) asSl) fun l28 =>
              obind p0 fun a29 =>
                obind (Option.bind (cell L (Addr.add a29 0)) asSl) fun l30 =>
                  obind (idx l28 (IntKind.wrap IntKind.i64 ((↑l30.n : Int) - 1)) 1) fun a31 =>
                    obind (Option.bind (cell L a31) (asI IntKind.u8)) fun n32 =>
                      obind p0 fun a33 =>
                        obind (Option.bind (cell L (Addr.add a33 1)) (asI IntKind.i64)) fun n34 =>
                          when (!decide (IntKind.wrap IntKind.i64 (7 - Int.tmod n34 8) < 0))
                            (obind (idx l28 (IntKind.wrap IntKind.i64 ((↑l30.n : Int) - 1)) 1) fun a35 =>
                              obind
                                (stores L a35
                                  [Value.int IntKind.u8
                                      (bitop BinOp.or IntKind.u8 n32
                                        (IntKind.wrap IntKind.u8
                                          (IntKind.wrap IntKind.u8
                                              (bitop BinOp.and IntKind.u32 (Int.fdiv n1 (2 ^ min (Int.toNat (IntKind.wrap IntKind.i64 (IntKind.wrap IntKind.i64 (n2 - 1) - n4))) 32)) 1) *
                                            2 ^ min (Int.toNat (IntKind.wrap IntKind.i64 (7 - Int.tmod n34 8))) 8)))])
                                fun L36 =>
                                obind p0 fun a37 =>
                                  obind (Option.bind (cell L36 (Addr.add a37 1)) (asI IntKind.i64)) fun n38 =>
                                    obind p0 fun a39 =>
                                      obind (stores L36 (Addr.add a39 1) [Value.int IntKind.i64 (IntKind.wrap IntKind.i64 (n38 + 1))]) fun L40 =>
                                        Proofs.Ytlcchghlhfamjaa.X.f18_l6 k j6 p0 n1 n2 n3 (IntKind.wrap IntKind.i64 (n4 + 1)) L40))))
  (some (LR.ret (Value.int IntKind.i64 0) L)) := by kernel_rfl

/-- slots 0, 1, 7, 8 -/
noncomputable def f19_l5 (k : Nat) (j5 : Nat) (p12 : Option Addr) (n13 : Int) (l14 : Sl) (n15 : Int) (L : LHeap) : R :=
  loopAt Proofs.Try.prog Proofs.Ytlcchghlhfamjaa.X.T 19 k [1, 1, 1, 0, 1, 0] [] j5
  [(0, Value.pointer p12), (1, Value.int IntKind.u32 n13), (7, Value.slice l14.a l14.n l14.c), (8, Value.int IntKind.i64 n15)] L
theorem f19_eq (k : Nat) (p0 : Option Addr) (n1 : Int) (n2 : Int) (L : LHeap) : Proofs.Ytlcchghlhfamjaa.X.f19 (k + 1) p0 n1 n2 L =
  lif (decide (n2 < 0)) (some (LR.ret (Value.int IntKind.i64 1) L))
  (lif (decide (n2 > 32)) (some (LR.ret (Value.int IntKind.i64 1) L))
    (when (room n2 n2 Proofs.Try.prog.types[5].bytes)
      (Proofs.Ytlcchghlhfamjaa.X.f19_l5 k k p0 n1 (Sl.mk (some (Addr.mk (List.length L) 0 none)) (Int.toNat n2) (Int.toNat n2)) (IntKind.wrap IntKind.i64 (n2 - 1))
        (L ++ [LBlk.cells (List.flatten (List.replicate (Int.toNat n2) [Value.int IntKind.u8 0])) 5 false 0])))) := by kernel_rfl
theorem f19_l5_eq (k : Nat) (j5 : Nat) (p0 : Option Addr) (n1 : Int) (l2 : Sl) (n3 : Int) (L : LHeap) : Proofs.Ytlcchghlhfamjaa.X.f19_l5 k (j5 + 1) p0 n1 l2 n3 L =
  lif (decide (n3 ≥ 0))
  (obind (idx l2 n3 1) fun a4 =>
    obind (stores L a4 [Value.int IntKind.u8 (IntKind.wrap IntKind.u8 (Int.tmod n1 2))]) fun L5 =>
      Proofs.Ytlcchghlhfamjaa.X.f19_l5 k j5 p0 (IntKind.wrap IntKind.u32 (Int.tdiv n1 2)) l2 (IntKind.wrap IntKind.i64 (n3 - 1)) L5)
  (lif (n1 != 0) (some (LR.ret (Value.int IntKind.i64 1) L))
    (obind p0 fun a6 =>
      obind (Option.bind (cell L (Addr.add a6 0)) asSl) fun l7 =>
        obind (srcOf L Proofs.Try.prog.types[5].size l2.n (Value.slice l2.a l2.n l2.c)) fun x8 =>
          obind (app L 5 Proofs.Try.prog.types[5].size Proofs.Try.prog.types[5].bytes l7 l2.n x8) fun x9 =>
            obind p0 fun a10 => obind (stores x9.snd (Addr.add a10 0) [Value.slice x9.fst.a x9.fst.n x9.fst.c]) fun L11 => some (LR.ret (Value.int IntKind.i64 0) L11))) := by kernel_rfl

theorem f20_eq (k : Nat) (p0 : Option Addr) (L : LHeap) : Proofs.Ytlcchghlhfamjaa.X.f20 (k + 1) p0 L =
  lif (Option.isNone p0) (some (LR.ret (Value.int IntKind.i64 0) L))
  (obind p0 fun a1 => obind (Option.bind (cell L (Addr.add a1 1)) (asI IntKind.i64)) fun n2 => some (LR.ret (Value.int IntKind.i64 n2) L)) := by kernel_rfl

theorem f21_eq (k : Nat) (p0 : Option Addr) (L : LHeap) : Proofs.Ytlcchghlhfamjaa.X.f21 (k + 1) p0 L =
  obind p0 fun a1 => obind (Option.bind (cell L (Addr.add a1 0)) asSl) fun l2 => some (LR.ret (Value.int IntKind.i64 (↑l2.n : Int)) L) := by kernel_rfl

theorem f22_eq (k : Nat) (p0 : Option Addr) (L : LHeap) : Proofs.Ytlcchghlhfamjaa.X.f22 (k + 1) p0 L =
  lif (Option.isNone p0) (some (LR.ret (Value.string (ByteArray.mk #[])) L))
  (obind p0 fun a1 => obind (Option.bind (cell L (Addr.add a1 0)) asSl) fun l2 => obind (bytesOf L l2) fun s3 => some (LR.ret (Value.string s3) L)) := by kernel_rfl

/-- slots 0, 3, 4 -/
noncomputable def f23_l3 (k : Nat) (j3 : Nat) (p14 : Option Addr) (l15 : Sl) (n16 : Int) (L : LHeap) : R :=
  loopAt Proofs.Try.prog Proofs.Ytlcchghlhfamjaa.X.T 23 k [1, 1, 0, 1, 0] [] j3 [(0, Value.pointer p14), (3, Value.slice l15.a l15.n l15.c), (4, Value.int IntKind.i64 n16)] L
/-- slots 0, 3, 4, 5, 6 -/
noncomputable def f23_l7 (k : Nat) (j3_17 : Nat) (j7 : Nat) (p18 : Option Addr) (l19 : Sl) (n20 : Int) (n21 : Int) (n22 : Int) (L : LHeap) : R :=
  loopAt Proofs.Try.prog Proofs.Ytlcchghlhfamjaa.X.T 23 k [1, 1, 0, 1, 0, 0, 1, 0, 0, 1, 0, 1, 0] [j3_17] j7
  [(0, Value.pointer p18), (3, Value.slice l19.a l19.n l19.c), (4, Value.int IntKind.i64 n20), (5, Value.int IntKind.u8 n21), (6, Value.int IntKind.i64 n22)] L
theorem f23_eq (k : Nat) (p0 : Option Addr) (L : LHeap) : Proofs.Ytlcchghlhfamjaa.X.f23 (k + 1) p0 L =
  Proofs.Ytlcchghlhfamjaa.X.f23_l3 k k p0 (Sl.mk none 0 0) 0 L := by kernel_rfl
theorem f23_l3_eq (k : Nat) (j3 : Nat) (p0 : Option Addr) (l1 : Sl) (n2 : Int) (L : LHeap) : Proofs.Ytlcchghlhfamjaa.X.f23_l3 k (j3 + 1) p0 l1 n2 L =
  obind p0 fun a3 =>
  obind (Option.bind (cell L (Addr.add a3 0)) asSl) fun l4 =>
    lif (decide (n2 < (↑l4.n : Int))) (Proofs.Ytlcchghlhfamjaa.X.f23_l7 k j3 k p0 l1 n2 0 0 L) (obind (bytesOf L l1) fun s5 => some (LR.ret (Value.string s5) L)) := by kernel_rfl
theorem f23_l7_eq (k : Nat) (j3_0 : Nat) (j7 : Nat) (p1 : Option Addr) (l2 : Sl) (n3 : Int) (n4 : Int) (n5 : Int) (L : LHeap) : Proofs.Ytlcchghlhfamjaa.X.f23_l7 k j3_0 (j7 + 1) p1 l2 n3 n4 n5 L =
  lif (decide (n5 < 8))
  (obind p1 fun a6 =>
    obind (Option.bind (cell L (Addr.add a6 0)) asSl) fun l7 =>
      lif (decide (IntKind.wrap IntKind.i64 (n3 + n5) < (↑l7.n : Int)))
        (obind p1 fun a8 =>
          obind (Option.bind (cell L (Addr.add a8 0)) asSl) fun l9 =>
            obind (idx l9 (IntKind.wrap IntKind.i64 (n3 + n5)) 1) fun a10 =>
              obind (Option.bind (cell L a10) (asI IntKind.u8)) fun n11 =>
                Proofs.Ytlcchghlhfamjaa.X.f23_l7 k j3_0 j7 p1 l2 n3 (IntKind.wrap IntKind.u8 (IntKind.wrap IntKind.u8 (n4 * 2) + n11)) (IntKind.wrap IntKind.i64 (n5 + 1)) L)
        (Proofs.Ytlcchghlhfamjaa.X.f23_l7 k j3_0 j7 p1 l2 n3 (IntKind.wrap IntKind.u8 (n4 * 2)) (IntKind.wrap IntKind.i64 (n5 + 1)) L))
  (obind (srcOf (L ++ [LBlk.cells [Value.int IntKind.u8 n4] 5 false 0]) Proofs.Try.prog.types[5].size 1 (Value.slice (some (Addr.mk (List.length L) 0 none)) 1 1)) fun x12 =>
    obind (app (L ++ [LBlk.cells [Value.int IntKind.u8 n4] 5 false 0]) 5 Proofs.Try.prog.types[5].size Proofs.Try.prog.types[5].bytes l2 1 x12) fun x13 =>
      Proofs.Ytlcchghlhfamjaa.X.f23_l3 k j3_0 p1 x13.fst (IntKind.wrap IntKind.i64 (n3 + 8)) x13.snd) := by kernel_rfl

theorem f24_eq (k : Nat) (s0 : ByteArray) (L : LHeap) : Proofs.Ytlcchghlhfamjaa.X.f24 (k + 1) s0 L =
  some (LR.ret (Value.pointer (some (Addr.mk (List.length L) 0 none))) (L ++ [LBlk.cells [Value.string s0, Value.int IntKind.i64 0] 76 false 0])) := by kernel_rfl

/-- slots 0, 3, 4 -/
noncomputable def f25_l3 (k : Nat) (j3 : Nat) (s11 : ByteArray) (r12 : Nat) (n13 : Int) (L : LHeap) : R :=
  loopAt Proofs.Try.prog Proofs.Ytlcchghlhfamjaa.X.T 25 k [1, 1, 0, 1, 0] [] j3 [(0, Value.string s11), (3, Value.pointer (some (Addr.mk r12 0 none))), (4, Value.int IntKind.i64 n13)] L
/-- slots 0, 3, 4, 5 -/
noncomputable def f25_l6 (k : Nat) (j3_14 : Nat) (j6 : Nat) (s15 : ByteArray) (r16 : Nat) (n17 : Int) (n18 : Int) (L : LHeap) : R :=
  loopAt Proofs.Try.prog Proofs.Ytlcchghlhfamjaa.X.T 25 k [1, 1, 0, 1, 0, 0, 1, 0, 0, 1, 0] [j3_14] j6
  [(0, Value.string s15), (3, Value.pointer (some (Addr.mk r16 0 none))), (4, Value.int IntKind.i64 n17), (5, Value.int IntKind.i64 n18)] L
theorem f25_eq (k : Nat) (s0 : ByteArray) (L : LHeap) : Proofs.Ytlcchghlhfamjaa.X.f25 (k + 1) s0 L =
  Proofs.Ytlcchghlhfamjaa.X.f25_l3 k k s0 (List.length L) 0 (L ++ [LBlk.cells [Value.slice none 0 0] 77 false 0]) := by kernel_rfl
theorem f25_l3_eq (k : Nat) (j3 : Nat) (s0 : ByteArray) (r1 : Nat) (n2 : Int) (L : LHeap) : Proofs.Ytlcchghlhfamjaa.X.f25_l3 k (j3 + 1) s0 r1 n2 L =
  lif (decide (n2 < (↑(ByteArray.size s0) : Int))) (Proofs.Ytlcchghlhfamjaa.X.f25_l6 k j3 k s0 r1 n2 128 L) (some (LR.ret (Value.pointer (some (Addr.mk r1 0 none))) L)) := by kernel_rfl
theorem f25_l6_eq (k : Nat) (j3_0 : Nat) (j6 : Nat) (s1 : ByteArray) (r2 : Nat) (n3 : Int) (n4 : Int) (L : LHeap) : Proofs.Ytlcchghlhfamjaa.X.f25_l6 k j3_0 (j6 + 1) s1 r2 n3 n4 L =
  lif (decide (n4 > 0))
  (obind (Option.bind (cell L (Addr.add (Addr.mk r2 0 none) 0)) asSl) fun l5 =>
    obind (byteAt s1 n3) fun n6 =>
      when (!decide (n4 = 0))
        (obind
          (Option.bind
            (cell (L ++ [LBlk.cells [Value.int IntKind.u8 (IntKind.wrap IntKind.u8 (Int.tmod (IntKind.wrap IntKind.i64 (Int.tdiv (IntKind.wrap IntKind.i64 n6) n4)) 2))] 5 false 0])
              (Addr.add (Addr.mk r2 0 none) 0))
            asSl)
          fun l7 =>
          when (same (Value.slice l5.a l5.n l5.c) (Value.slice l7.a l7.n l7.c))
            (obind
              (srcOf (L ++ [LBlk.cells [Value.int IntKind.u8 (IntKind.wrap IntKind.u8 (Int.tmod (IntKind.wrap IntKind.i64 (Int.tdiv (IntKind.wrap IntKind.i64 n6) n4)) 2))] 5 false 0])
                Proofs.Try.prog.types[5].size 1 (Value.slice (some (Addr.mk (List.length L) 0 none)) 1 1))
              fun x8 =>
              obind
                (app (L ++ [LBlk.cells [Value.int IntKind.u8 (IntKind.wrap IntKind.u8 (Int.tmod (IntKind.wrap IntKind.i64 (Int.tdiv (IntKind.wrap IntKind.i64 n6) n4)) 2))] 5 false 0]) 5
                  Proofs.Try.prog.types[5].size Proofs.Try.prog.types[5].bytes l5 1 x8)
                fun x9 =>
                obind (stores x9.snd (Addr.add (Addr.mk r2 0 none) 0) [Value.slice x9.fst.a x9.fst.n x9.fst.c]) fun L10 =>
                  Proofs.Ytlcchghlhfamjaa.X.f25_l6 k j3_0 j6 s1 r2 n3 (IntKind.wrap IntKind.i64 (Int.tdiv n4 2)) L10)))
  (Proofs.Ytlcchghlhfamjaa.X.f25_l3 k j3_0 s1 r2 (IntKind.wrap IntKind.i64 (n3 + 1)) L) := by kernel_rfl

/-- slots 0, 6, 22, 23 -/
noncomputable def f26_l9 (k : Nat) (j9 : Nat) (p13 : Option Addr) (n14 : Int) (n15 : Int) (n16 : Int) (L : LHeap) : R :=
  loopAt Proofs.Try.prog Proofs.Ytlcchghlhfamjaa.X.T 26 k [1, 1, 1, 0, 1, 0] [] j9
  [(0, Value.pointer p13), (6, Value.int IntKind.u32 n14), (22, Value.int IntKind.i64 n15), (23, Value.int IntKind.i64 n16)] L
theorem f26_eq (k : Nat) (p0 : Option Addr) (n1 : Int) (L : LHeap) : Proofs.Ytlcchghlhfamjaa.X.f26 (k + 1) p0 n1 L =
  lif (Option.isNone p0) (some (LR.ret (Value.tuple #[Value.int IntKind.u32 0, Value.int IntKind.i64 2]) L))
  (lif (decide (n1 < 0)) (some (LR.ret (Value.tuple #[Value.int IntKind.u32 0, Value.int IntKind.i64 1]) L))
    (lif (decide (n1 > 32)) (some (LR.ret (Value.tuple #[Value.int IntKind.u32 0, Value.int IntKind.i64 1]) L))
      (lbind (Proofs.Ytlcchghlhfamjaa.X.f28 k p0 L) fun v2 L3 =>
        obind (asI IntKind.i64 v2) fun n4 =>
          lif (decide (n1 > n4)) (some (LR.ret (Value.tuple #[Value.int IntKind.u32 0, Value.int IntKind.i64 4]) L3)) (Proofs.Ytlcchghlhfamjaa.X.f26_l9 k k p0 0 n1 0 L3)))) := by kernel_rfl
theorem f26_l9_eq (k : Nat) (j9 : Nat) (p0 : Option Addr) (n1 : Int) (n2 : Int) (n3 : Int) (L : LHeap) : Proofs.Ytlcchghlhfamjaa.X.f26_l9 k (j9 + 1) p0 n1 n2 n3 L =
  lif (decide (n3 < n2))
  (obind p0 fun a4 =>
    obind (Option.bind (cell L (Addr.add a4 1)) (asI IntKind.i64)) fun n5 =>
      lbind (Proofs.Ytlcchghlhfamjaa.X.f48 k p0 n5 L) fun v6 L7 =>
        obind (asI IntKind.u32 v6) fun n8 =>
          obind p0 fun a9 =>
            obind (Option.bind (cell L7 (Addr.add a9 1)) (asI IntKind.i64)) fun n10 =>
              obind p0 fun a11 =>
                obind (stores L7 (Addr.add a11 1) [Value.int IntKind.i64 (IntKind.wrap IntKind.i64 (n10 + 1))]) fun L12 =>
                  Proofs.Ytlcchghlhfamjaa.X.f26_l9 k j9 p0 (bitop BinOp.or IntKind.u32 (IntKind.wrap IntKind.u32 (n1 * 2)) n8) n2 (IntKind.wrap IntKind.i64 (n3 + 1)) L12)
  (some (LR.ret (Value.tuple #[Value.int IntKind.u32 n1, Value.int IntKind.i64 0]) L)) := by kernel_rfl

/-- slots 0, 1, 6, 7 -/
noncomputable def f27_l7 (k : Nat) (j7 : Nat) (p13 : Option Addr) (n14 : Int) (n15 : Int) (n16 : Int) (L : LHeap) : R :=
  loopAt Proofs.Try.prog Proofs.Ytlcchghlhfamjaa.X.T 27 k [1, 1, 1, 1, 0, 1, 0] [] j7
  [(0, Value.pointer p13), (1, Value.int IntKind.i64 n14), (6, Value.int IntKind.u32 n15), (7, Value.int IntKind.i64 n16)] L
theorem f27_eq (k : Nat) (p0 : Option Addr) (n1 : Int) (L : LHeap) : Proofs.Ytlcchghlhfamjaa.X.f27 (k + 1) p0 n1 L =
  lif (decide (n1 < 0)) (some (LR.ret (Value.tuple #[Value.int IntKind.u32 0, Value.int IntKind.i64 1]) L))
  (lif (decide (n1 > 32)) (some (LR.ret (Value.tuple #[Value.int IntKind.u32 0, Value.int IntKind.i64 1]) L))
    (obind p0 fun a2 =>
      obind (Option.bind (cell L (Addr.add a2 0)) asSl) fun l3 =>
        lif (decide (n1 > (↑l3.n : Int))) (some (LR.ret (Value.tuple #[Value.int IntKind.u32 0, Value.int IntKind.i64 4]) L)) (Proofs.Ytlcchghlhfamjaa.X.f27_l7 k k p0 n1 0 0 L))) := by kernel_rfl
theorem f27_l7_eq (k : Nat) (j7 : Nat) (p0 : Option Addr) (n1 : Int) (n2 : Int) (n3 : Int) (L : LHeap) : Proofs.Ytlcchghlhfamjaa.X.f27_l7 k (j7 + 1) p0 n1 n2 n3 L =
  lif (decide (n3 < n1))
  (obind p0 fun a4 =>
    obind (Option.bind (cell L (Addr.add a4 0)) asSl) fun l5 =>
      obind (idx l5 n3 1) fun a6 =>
        obind (Option.bind (cell L a6) (asI IntKind.u8)) fun n7 =>
          Proofs.Ytlcchghlhfamjaa.X.f27_l7 k j7 p0 n1 (IntKind.wrap IntKind.u32 (IntKind.wrap IntKind.u32 (n2 * 2) + IntKind.wrap IntKind.u32 n7)) (IntKind.wrap IntKind.i64 (n3 + 1)) L)
  (obind p0 fun a8 =>
    obind (Option.bind (cell L (Addr.add a8 0)) asSl) fun l9 =>
      obind (cut L l9 (some n1) none none 1) fun l10 =>
        obind p0 fun a11 => obind (stores L (Addr.add a11 0) [Value.slice l10.a l10.n l10.c]) fun L12 => some (LR.ret (Value.tuple #[Value.int IntKind.u32 n2, Value.int IntKind.i64 0]) L12)) := by kernel_rfl

theorem f28_eq (k : Nat) (p0 : Option Addr) (L : LHeap) : Proofs.Ytlcchghlhfamjaa.X.f28 (k + 1) p0 L =
  lif (Option.isNone p0) (some (LR.ret (Value.int IntKind.i64 0) L))
  (obind p0 fun a1 =>
    obind (Option.bind (cell L (Addr.add a1 0)) asS) fun s2 =>
      obind p0 fun a3 =>
        obind (Option.bind (cell L (Addr.add a3 1)) (asI IntKind.i64)) fun n4 =>
          some (LR.ret (Value.int IntKind.i64 (IntKind.wrap IntKind.i64 (IntKind.wrap IntKind.i64 (8 * (↑(ByteArray.size s2) : Int)) - n4))) L)) := by kernel_rfl

theorem f29_eq (k : Nat) (p0 : Option Addr) (L : LHeap) : Proofs.Ytlcchghlhfamjaa.X.f29 (k + 1) p0 L =
  obind p0 fun a1 => obind (Option.bind (cell L (Addr.add a1 0)) asSl) fun l2 => some (LR.ret (Value.int IntKind.i64 (↑l2.n : Int)) L) := by kernel_rfl

/-- slots 0, 9, 10 -/
noncomputable def f30_l5 (k : Nat) (j5 : Nat) (p8 : Option Addr) (n9 : Int) (n10 : Int) (L : LHeap) : R :=
  loopAt Proofs.Try.prog Proofs.Ytlcchghlhfamjaa.X.T 30 k [1, 1, 1, 0, 1, 0] [] j5 [(0, Value.pointer p8), (9, Value.int IntKind.i64 n9), (10, Value.int IntKind.i64 n10)] L
theorem f30_eq (k : Nat) (p0 : Option Addr) (L : LHeap) : Proofs.Ytlcchghlhfamjaa.X.f30 (k + 1) p0 L =
  lbind (Proofs.Ytlcchghlhfamjaa.X.f28 k p0 L) fun v1 L2 =>
  obind (asI IntKind.i64 v1) fun n3 => lif (decide (n3 ≥ 8)) (some (LR.ret (Value.bool false) L2)) (Proofs.Ytlcchghlhfamjaa.X.f30_l5 k k p0 n3 0 L2) := by kernel_rfl
theorem f30_l5_eq (k : Nat) (j5 : Nat) (p0 : Option Addr) (n1 : Int) (n2 : Int) (L : LHeap) : Proofs.Ytlcchghlhfamjaa.X.f30_l5 k (j5 + 1) p0 n1 n2 L =
  lif (decide (n2 < n1))
  (obind p0 fun a3 =>
    obind (Option.bind (cell L (Addr.add a3 1)) (asI IntKind.i64)) fun n4 =>
      lbind (Proofs.Ytlcchghlhfamjaa.X.f48 k p0 (IntKind.wrap IntKind.i64 (n4 + n2)) L) fun v5 L6 =>
        obind (asI IntKind.u32 v5) fun n7 => lif (n7 != 0) (some (LR.ret (Value.bool false) L6)) (Proofs.Ytlcchghlhfamjaa.X.f30_l5 k j5 p0 n1 (IntKind.wrap IntKind.i64 (n2 + 1)) L6))
  (some (LR.ret (Value.bool true) L)) := by kernel_rfl

/-- slots 0, 3 -/
noncomputable def f31_l2 (k : Nat) (j2 : Nat) (p10 : Option Addr) (n11 : Int) (L : LHeap) : R :=
  loopAt Proofs.Try.prog Proofs.Ytlcchghlhfamjaa.X.T 31 k [1, 0, 1, 0] [] j2 [(0, Value.pointer p10), (3, Value.int IntKind.i64 n11)] L
theorem f31_eq (k : Nat) (p0 : Option Addr) (L : LHeap) : Proofs.Ytlcchghlhfamjaa.X.f31 (k + 1) p0 L =
  Proofs.Ytlcchghlhfamjaa.X.f31_l2 k k p0 0 L := by kernel_rfl
theorem f31_l2_eq (k : Nat) (j2 : Nat) (p0 : Option Addr) (n1 : Int) (L : LHeap) : Proofs.Ytlcchghlhfamjaa.X.f31_l2 k (j2 + 1) p0 n1 L =
  obind p0 fun a2 =>
  obind (Option.bind (cell L (Addr.add a2 0)) asSl) fun l3 =>
    lif (decide (n1 < (↑l3.n : Int)))
      (obind p0 fun a4 =>
        obind (Option.bind (cell L (Addr.add a4 0)) asSl) fun l5 =>
          obind (idx l5 n1 1) fun a6 =>
            obind (Option.bind (cell L a6) (asI IntKind.u8)) fun n7 =>
              lif (n7 != 0) (some (LR.ret (Value.bool false) L)) (Proofs.Ytlcchghlhfamjaa.X.f31_l2 k j2 p0 (IntKind.wrap IntKind.i64 (n1 + 1)) L))
      (obind p0 fun a8 => obind (Option.bind (cell L (Addr.add a8 0)) asSl) fun l9 => some (LR.ret (Value.bool (decide ((↑l9.n : Int) < 8))) L)) := by kernel_rfl

theorem f32_eq (k : Nat) (L : LHeap) : Proofs.Ytlcchghlhfamjaa.X.f32 (k + 1) L =
  lbind (Proofs.Ytlcchghlhfamjaa.X.f18 k (some (Addr.mk (List.length L) 0 none)) 5 3 (L ++ [LBlk.cells [Value.slice none 0 0, Value.int IntKind.i64 0] 26 false 0])) fun v0 L1 =>
  obind (asI IntKind.i64 v0) fun n2 =>
    lif (n2 != 0) (some (LR.ret (Value.bool false) L1))
      (lbind (Proofs.Ytlcchghlhfamjaa.X.f18 k (some (Addr.mk (List.length L) 0 none)) 1 2 L1) fun v3 L4 =>
        obind (asI IntKind.i64 v3) fun n5 =>
          lif (n5 != 0) (some (LR.ret (Value.bool false) L4))
            (lbind (Proofs.Ytlcchghlhfamjaa.X.f20 k (some (Addr.mk (List.length L) 0 none)) L4) fun v6 L7 =>
              obind (asI IntKind.i64 v6) fun n8 =>
                lif (n8 != 5) (some (LR.ret (Value.bool false) L7))
                  (lbind (Proofs.Ytlcchghlhfamjaa.X.f22 k (some (Addr.mk (List.length L) 0 none)) L7) fun v9 L10 =>
                    obind (asS v9) fun s11 =>
                      lif (!ByteArray.toList s11 == ByteArray.toList (ByteArray.mk #[168])) (some (LR.ret (Value.bool false) L10))
                        (lbind (Proofs.Ytlcchghlhfamjaa.X.f18 k (some (Addr.mk (List.length L) 0 none)) 8 3 L10) fun v12 L13 =>
                          obind (asI IntKind.i64 v12) fun n14 =>
                            lif (n14 != 1) (some (LR.ret (Value.bool false) L13))
                              (lbind (Proofs.Ytlcchghlhfamjaa.X.f20 k (some (Addr.mk (List.length L) 0 none)) L13) fun v15 L16 =>
                                obind (asI IntKind.i64 v15) fun n17 =>
                                  lif (n17 != 5) (some (LR.ret (Value.bool false) L16))
                                    (lbind (Proofs.Ytlcchghlhfamjaa.X.f24 k (ByteArray.mk #[168]) L16) fun v18 L19 =>
                                      obind (asP v18) fun x20 =>
                                        lbind (Proofs.Ytlcchghlhfamjaa.X.f26 k x20 3 L19) fun v21 L22 =>
                                          obind (tupL v21) fun x23 =>
                                            uncons x23 fun v24 vs25 =>
                                              obind (asI IntKind.u32 v24) fun n26 =>
                                                uncons vs25 fun v27 vs28 =>
                                                  obind (asI IntKind.i64 v27) fun n29 =>
                                                    nilL vs28
                                                      (lbind (Proofs.Ytlcchghlhfamjaa.X.f26 k x20 2 L22) fun v30 L31 =>
                                                        obind (tupL v30) fun x32 =>
                                                          uncons x32 fun v33 vs34 =>
                                                            obind (asI IntKind.u32 v33) fun n35 =>
                                                              uncons vs34 fun v36 vs37 =>
                                                                obind (asI IntKind.i64 v36) fun n38 =>
                                                                  nilL vs37
                                                                    (lbind (Proofs.Ytlcchghlhfamjaa.X.f24 k (ByteArray.mk #[168]) L31) fun v39 L40 =>
                                                                      obind (asP v39) fun x41 =>
                                                                        lbind (Proofs.Ytlcchghlhfamjaa.X.f26 k x41 9 L40) fun v42 L43 =>
                                                                          obind (tupL v42) fun x44 =>
                                                                            uncons x44 fun v45 vs46 =>
                                                                              obind (asI IntKind.u32 v45) fun n47 =>
                                                                                uncons vs46 fun v48 vs49 =>
                                                                                  obind (asI IntKind.i64 v48) fun n50 =>
                                                                                    nilL vs49
                                                                                      (lif (n26 == 5)
                                                                                        (lif (n29 == 0)
                                                                                          (lif (n35 == 1)
                                                                                            (lif (n38 == 0)
                                                                                              (lbind (Proofs.Ytlcchghlhfamjaa.X.f28 k x20 L43) fun v51 L52 =>
                                                                                                obind (asI IntKind.i64 v51) fun n53 =>
                                                                                                  lif (n53 == 3)
                                                                                                    (lbind (Proofs.Ytlcchghlhfamjaa.X.f30 k x20 L52) fun v54 L55 =>
                                                                                                      obind (asB v54) fun b56 =>
                                                                                                        lif b56 (some (LR.ret (Value.bool (n50 == 4)) L55)) (some (LR.ret (Value.bool false) L55)))
                                                                                                    (some (LR.ret (Value.bool false) L52)))
                                                                                              (some (LR.ret (Value.bool false) L43)))
                                                                                            (some (LR.ret (Value.bool false) L43)))
                                                                                          (some (LR.ret (Value.bool false) L43)))
                                                                                        (some (LR.ret (Value.bool false) L43))))))))))) := by kernel_rfl

theorem f48_eq (k : Nat) (p0 : Option Addr) (n1 : Int) (L : LHeap) : Proofs.Ytlcchghlhfamjaa.X.f48 (k + 1) p0 n1 L =
  obind p0 fun a2 =>
  obind (Option.bind (cell L (Addr.add a2 0)) asS) fun s3 =>
    obind (byteAt s3 (IntKind.wrap IntKind.i64 (Int.tdiv n1 8))) fun n4 =>
      when (!decide (IntKind.wrap IntKind.i64 (7 - Int.tmod n1 8) < 0))
        (some (LR.ret (Value.int IntKind.u32 (bitop BinOp.and IntKind.u32 (IntKind.wrap IntKind.u32 (Int.fdiv n4 (2 ^ min (Int.toNat (IntKind.wrap IntKind.i64 (7 - Int.tmod n1 8))) 8))) 1)) L)) := by kernel_rfl

end Go.Proofs.Ytlcchghlhfamjaa.X

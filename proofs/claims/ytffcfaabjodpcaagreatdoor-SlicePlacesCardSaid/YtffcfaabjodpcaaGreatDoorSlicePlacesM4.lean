/- The logical machine, its likeness to the model, and the contracts of the functions that the law calls. Printed by pack.py, a program of this work, out of its texts; what the law does not use is left out. -/
import Derived.Test.YtffcfaabjodpcaaGreatDoorSlicePlacesM3
import Derived.Test.YtffcfaabjodpcaaGreatDoorProg
import Derived.KernelRfl
import Derived.Lib.SmallJoins
section
set_option maxRecDepth 100000
namespace Go.Proofs.YtffcfaabjodpcaaGreatDoor
open Go Go.Rlm
theorem refname_ok (k : Nat) (p : Plc) : Pl.f15 k p.base p.idx p.k p.d p.r p.z p.m = ok (.tuple #[.string (nameS p), .int .i64 (nameE p)]) := by
  rw [Pl.f15_eq]
  show lif (!placeB p) _ _ = _
  unfold nameS nameE
  cases hp : placeB p with
  | false => rfl
  | true =>
    obtain ⟨⟨_, _, _, _, _, _, _, _, _⟩, _, hb, _, _, _, _, _⟩ := place_true hp
    have e : itoaS p.d.toNat = bs (decD 20 p.d.toNat) ∧ itoaS p.r.toNat = bs (decD 20 p.r.toNat) ∧ itoaS p.z.toNat = bs (decD 20 p.z.toNat) ∧ itoaS p.m.toNat = bs (decD 20 p.m.toNat) ∧ itoaS p.k.toNat = bs (decD 20 p.k.toNat) ∧
      itoaS p.idx.toNat = bs (decD 20 p.idx.toNat) := ⟨rfl, rfl, rfl, rfl, rfl, rfl⟩
    obtain ⟨e1, e2, e3, e4, e5, e6⟩ := e
    have l1 := decD_len 20 p.d.toNat
    have l2 := decD_len 20 p.r.toNat
    have l3 := decD_len 20 p.z.toNat
    have l4 := decD_len 20 p.m.toNat
    have l5 := decD_len 20 p.k.toNat
    have l6 := decD_len 20 p.idx.toNat
    have hbase : p.base = bs p.base.data.toList := (bs_data _).symm
    have hbl : p.base.data.toList.length ≤ 60 := by rw [← size_data]; exact hb
    unfold nameL
    rw [e1, e2, e3, e4, e5, e6]
    generalize hB : p.base.data.toList = B at hbase hbl ⊢
    rw [hbase]
    have g : ∀ n : Int, 0 ≤ n → n ≤ 1000 → (decide (0 ≤ n) && decide (n < 1000000000000000)) = true := fun n h1 h2 => by rw [decide_eq_true h1, decide_eq_true (by omega)]; rfl
    rw [Bool.not_true, lif_false]
    rw [g p.d (by omega) (by omega), g p.r (by omega) (by omega), g p.z (by omega) (by omega), g p.m (by omega) (by omega), g p.k (by omega) (by omega), g p.idx (by omega) (by omega)]
    generalize decD 20 p.d.toNat = D1 at *
    generalize decD 20 p.r.toNat = D2 at *
    generalize decD 20 p.z.toNat = D3 at *
    generalize decD 20 p.m.toNat = D4 at *
    generalize decD 20 p.k.toNat = D5 at *
    generalize decD 20 p.idx.toNat = D6 at *
    have f : ∀ n : Nat, n ≤ 1000 → fitsS n = true := fun n h => fitsS_ok (by omega)
    rw [show ByteArray.mk #[46, 100] = bs [46, 100] from rfl, show ByteArray.mk #[114] = bs [114] from rfl, show ByteArray.mk #[115] = bs [115] from rfl, show ByteArray.mk #[109] = bs [109] from rfl, show ByteArray.mk #[107] = bs [107] from rfl, show ByteArray.mk #[118] = bs [118] from rfl]
    simp only [same_self, when_true, bs_app, bs_size, List.length_append, List.length_cons, List.length_nil]
    repeat (first | rw [when_true] | rw [f _ (by omega), when_true])
    simp
theorem pureRefName : PureOk globs Tryz.prog 15 nameP :=
  .runs (T := Pl.T) (n := 0) specPl X.mixed X.named (by decide) fun args L r0 r hr hreal => by
    unfold nameP at hr
    split at hr
    case h_2 => cases hr
    injection hr with hr
    subst hr
    injection hreal with hreal
    subst hreal
    rename_i b i k d r z m
    exact ⟨_, rfl, rfl, rfl, refname_ok 0 ⟨b, i, k, d, r, z, m⟩⟩
theorem specPn : SpecOk globs Tryz.prog Pn.T := .more pureRefName specPl
end Go.Proofs.YtffcfaabjodpcaaGreatDoor
end

section
set_option maxRecDepth 100000
set_option linter.unusedVariables false
namespace Go.Proofs.YtffcfaabjodpcaaGreatDoor.Pn
open Go Go.Rlm
/-- hamper/hamperref26.Parse -/
noncomputable def f17 (k : Nat) (s0 : ByteArray) : R :=
  lpure Tryz.prog T k 17 [Value.string s0]
/-- slots 0, 2, 4 -/
noncomputable def f17_l2 (k : Nat) (j2 : Nat) (s150 : ByteArray) (n151 : Int) (s152 : ByteArray) (n153 : Int) (n154 : Int) (n155 : Int) (n156 : Int) (n157 : Int) (n158 : Int) : R :=
  loopAtD Tryz.prog T 17 k [1, 1, 0, 0] [] j2 [(0, Value.string s150), (2, Value.pointer (some (Addr.mk 0 0 none))), (4, Value.int IntKind.i64 n151)]
  [LBlk.cells
      [Value.string s152, Value.int IntKind.i64 n153, Value.int IntKind.i64 n154, Value.int IntKind.i64 n155, Value.int IntKind.i64 n156, Value.int IntKind.i64 n157, Value.int IntKind.i64 n158] 25
      false 0]
/-- slots 0, 2, 4, 5, 6, 7 -/
noncomputable def f17_l7 (k : Nat) (j7 : Nat) (s159 : ByteArray) (n160 : Int) (l161 : Sl) (n162 : Int) (n163 : Int) (L : LHeap) : R :=
  loopAtD Tryz.prog T 17 k [1, 1, 1, 1, 1, 0, 1, 0] [] j7
  [(0, Value.string s159), (2, Value.pointer (some (Addr.mk 0 0 none))), (4, Value.int IntKind.i64 n160), (5, Value.slice l161.a l161.n l161.c), (6, Value.int IntKind.u8 n162),
    (7, Value.int IntKind.i64 n163)]
  L
theorem f17_eq (k : Nat) (s0 : ByteArray) : f17 k s0 =
 f17_l2 k k s0 0 (ByteArray.mk #[]) 0 0 0 0 0 0 := by kernel_rfl
theorem f17_l2_eq (k : Nat) (j2 : Nat) (s0 : ByteArray) (n1 : Int) (s2 : ByteArray) (n3 : Int) (n4 : Int) (n5 : Int) (n6 : Int) (n7 : Int) (n8 : Int) : f17_l2 k (j2 + 1) s0 n1 s2 n3 n4 n5 n6 n7 n8 =
 lif (decide (n1 < (↑(ByteArray.size s0) : Int)))
 (obind (byteAt s0 n1) fun n9 =>
 lif (n9 != 46) (f17_l2 k j2 s0 (IntKind.wrap IntKind.i64 (n1 + 1)) s2 n3 n4 n5 n6 n7 n8)
 (f17_l7 k k s0 n1 (Sl.mk none 0 0) 0 (IntKind.wrap IntKind.i64 (n1 + 1))
 [LBlk.cells [Value.string s2, Value.int IntKind.i64 n3, Value.int IntKind.i64 n4, Value.int IntKind.i64 n5, Value.int IntKind.i64 n6, Value.int IntKind.i64 n7, Value.int IntKind.i64 n8] 25
 false 0]))
 (f17_l7 k k s0 n1 (Sl.mk none 0 0) 0 (IntKind.wrap IntKind.i64 (n1 + 1))
 [LBlk.cells [Value.string s2, Value.int IntKind.i64 n3, Value.int IntKind.i64 n4, Value.int IntKind.i64 n5, Value.int IntKind.i64 n6, Value.int IntKind.i64 n7, Value.int IntKind.i64 n8] 25 false
 0]) := by kernel_rfl
theorem f17_l7_eq (k : Nat) (j7 : Nat) (s0 : ByteArray) (n1 : Int) (l2 : Sl) (n3 : Int) (n4 : Int) (L : LHeap) : f17_l7 k (j7 + 1) s0 n1 l2 n3 n4 L =
 lif (decide (n4 < (↑(ByteArray.size s0) : Int)))
 (obind (byteAt s0 n4) fun n5 =>
 lif (decide (n5 ≥ 48))
 (lif (decide (n5 ≤ 57))
 (lif ((↑l2.n : Int) == 0)
 (obind
 (stores L (Addr.mk 0 0 none)
 [Value.string (ByteArray.mk #[]), Value.int IntKind.i64 0, Value.int IntKind.i64 0, Value.int IntKind.i64 0, Value.int IntKind.i64 0, Value.int IntKind.i64 0, Value.int IntKind.i64 0])
 fun L6 =>
 obind (Option.bind (cell L6 (Addr.add (Addr.mk 0 0 none) 0)) asS) fun s7 =>
 obind (Option.bind (cell L6 (Addr.add (Addr.mk 0 0 none) 1)) (asI IntKind.i64)) fun n8 =>
 obind (Option.bind (cell L6 (Addr.add (Addr.mk 0 0 none) 2)) (asI IntKind.i64)) fun n9 =>
 obind (Option.bind (cell L6 (Addr.add (Addr.mk 0 0 none) 3)) (asI IntKind.i64)) fun n10 =>
 obind (Option.bind (cell L6 (Addr.add (Addr.mk 0 0 none) 4)) (asI IntKind.i64)) fun n11 =>
 obind (Option.bind (cell L6 (Addr.add (Addr.mk 0 0 none) 5)) (asI IntKind.i64)) fun n12 =>
 obind (Option.bind (cell L6 (Addr.add (Addr.mk 0 0 none) 6)) (asI IntKind.i64)) fun n13 =>
 ok
 (Value.tuple
 #[Value.agg
 #[Value.string s7, Value.int IntKind.i64 n8, Value.int IntKind.i64 n9, Value.int IntKind.i64 n10, Value.int IntKind.i64 n11, Value.int IntKind.i64 n12,
 Value.int IntKind.i64 n13],
 Value.int IntKind.i64 4]))
 (obind (idx l2 (IntKind.wrap IntKind.i64 ((↑l2.n : Int) - 1)) 1) fun a14 =>
 obind (Option.bind (cell L a14) (asI IntKind.i64)) fun n15 =>
 lif (decide (n15 > 100000))
 (obind
 (stores L (Addr.mk 0 0 none)
 [Value.string (ByteArray.mk #[]), Value.int IntKind.i64 0, Value.int IntKind.i64 0, Value.int IntKind.i64 0, Value.int IntKind.i64 0, Value.int IntKind.i64 0,
 Value.int IntKind.i64 0])
 fun L16 =>
 obind (Option.bind (cell L16 (Addr.add (Addr.mk 0 0 none) 0)) asS) fun s17 =>
 obind (Option.bind (cell L16 (Addr.add (Addr.mk 0 0 none) 1)) (asI IntKind.i64)) fun n18 =>
 obind (Option.bind (cell L16 (Addr.add (Addr.mk 0 0 none) 2)) (asI IntKind.i64)) fun n19 =>
 obind (Option.bind (cell L16 (Addr.add (Addr.mk 0 0 none) 3)) (asI IntKind.i64)) fun n20 =>
 obind (Option.bind (cell L16 (Addr.add (Addr.mk 0 0 none) 4)) (asI IntKind.i64)) fun n21 =>
 obind (Option.bind (cell L16 (Addr.add (Addr.mk 0 0 none) 5)) (asI IntKind.i64)) fun n22 =>
 obind (Option.bind (cell L16 (Addr.add (Addr.mk 0 0 none) 6)) (asI IntKind.i64)) fun n23 =>
 ok
 (Value.tuple
 #[Value.agg
 #[Value.string s17, Value.int IntKind.i64 n18, Value.int IntKind.i64 n19, Value.int IntKind.i64 n20, Value.int IntKind.i64 n21, Value.int IntKind.i64 n22,
 Value.int IntKind.i64 n23],
 Value.int IntKind.i64 4]))
 (obind (idx l2 (IntKind.wrap IntKind.i64 ((↑l2.n : Int) - 1)) 1) fun a24 =>
 obind (Option.bind (cell L a24) (asI IntKind.i64)) fun n25 =>
 obind (idx l2 (IntKind.wrap IntKind.i64 ((↑l2.n : Int) - 1)) 1) fun a26 =>
 obind (stores L a26 [Value.int IntKind.i64 (IntKind.wrap IntKind.i64 (IntKind.wrap IntKind.i64 (IntKind.wrap IntKind.i64 (n25 * 10) + IntKind.wrap IntKind.i64 n5) - 48))])
 fun L27 => f17_l7 k j7 s0 n1 l2 n5 (IntKind.wrap IntKind.i64 (n4 + 1)) L27)))
 (lif (decide ((↑l2.n : Int) ≥ 6))
 (obind
 (stores L (Addr.mk 0 0 none)
 [Value.string (ByteArray.mk #[]), Value.int IntKind.i64 0, Value.int IntKind.i64 0, Value.int IntKind.i64 0, Value.int IntKind.i64 0, Value.int IntKind.i64 0, Value.int IntKind.i64 0])
 fun L28 =>
 obind (Option.bind (cell L28 (Addr.add (Addr.mk 0 0 none) 0)) asS) fun s29 =>
 obind (Option.bind (cell L28 (Addr.add (Addr.mk 0 0 none) 1)) (asI IntKind.i64)) fun n30 =>
 obind (Option.bind (cell L28 (Addr.add (Addr.mk 0 0 none) 2)) (asI IntKind.i64)) fun n31 =>
 obind (Option.bind (cell L28 (Addr.add (Addr.mk 0 0 none) 3)) (asI IntKind.i64)) fun n32 =>
 obind (Option.bind (cell L28 (Addr.add (Addr.mk 0 0 none) 4)) (asI IntKind.i64)) fun n33 =>
 obind (Option.bind (cell L28 (Addr.add (Addr.mk 0 0 none) 5)) (asI IntKind.i64)) fun n34 =>
 obind (Option.bind (cell L28 (Addr.add (Addr.mk 0 0 none) 6)) (asI IntKind.i64)) fun n35 =>
 ok
 (Value.tuple
 #[Value.agg
 #[Value.string s29, Value.int IntKind.i64 n30, Value.int IntKind.i64 n31, Value.int IntKind.i64 n32, Value.int IntKind.i64 n33, Value.int IntKind.i64 n34,
 Value.int IntKind.i64 n35],
 Value.int IntKind.i64 4]))
 (lif (n3 != 0)
 (lif (decide (n3 < 48))
 (obind
 (stores L (Addr.mk 0 0 none)
 [Value.string (ByteArray.mk #[]), Value.int IntKind.i64 0, Value.int IntKind.i64 0, Value.int IntKind.i64 0, Value.int IntKind.i64 0, Value.int IntKind.i64 0,
 Value.int IntKind.i64 0])
 fun L36 =>
 obind (Option.bind (cell L36 (Addr.add (Addr.mk 0 0 none) 0)) asS) fun s37 =>
 obind (Option.bind (cell L36 (Addr.add (Addr.mk 0 0 none) 1)) (asI IntKind.i64)) fun n38 =>
 obind (Option.bind (cell L36 (Addr.add (Addr.mk 0 0 none) 2)) (asI IntKind.i64)) fun n39 =>
 obind (Option.bind (cell L36 (Addr.add (Addr.mk 0 0 none) 3)) (asI IntKind.i64)) fun n40 =>
 obind (Option.bind (cell L36 (Addr.add (Addr.mk 0 0 none) 4)) (asI IntKind.i64)) fun n41 =>
 obind (Option.bind (cell L36 (Addr.add (Addr.mk 0 0 none) 5)) (asI IntKind.i64)) fun n42 =>
 obind (Option.bind (cell L36 (Addr.add (Addr.mk 0 0 none) 6)) (asI IntKind.i64)) fun n43 =>
 ok
 (Value.tuple
 #[Value.agg
 #[Value.string s37, Value.int IntKind.i64 n38, Value.int IntKind.i64 n39, Value.int IntKind.i64 n40, Value.int IntKind.i64 n41, Value.int IntKind.i64 n42,
 Value.int IntKind.i64 n43],
 Value.int IntKind.i64 4]))
 (lif (decide (n3 > 57))
 (obind
 (stores L (Addr.mk 0 0 none)
 [Value.string (ByteArray.mk #[]), Value.int IntKind.i64 0, Value.int IntKind.i64 0, Value.int IntKind.i64 0, Value.int IntKind.i64 0, Value.int IntKind.i64 0,
 Value.int IntKind.i64 0])
 fun L44 =>
 obind (Option.bind (cell L44 (Addr.add (Addr.mk 0 0 none) 0)) asS) fun s45 =>
 obind (Option.bind (cell L44 (Addr.add (Addr.mk 0 0 none) 1)) (asI IntKind.i64)) fun n46 =>
 obind (Option.bind (cell L44 (Addr.add (Addr.mk 0 0 none) 2)) (asI IntKind.i64)) fun n47 =>
 obind (Option.bind (cell L44 (Addr.add (Addr.mk 0 0 none) 3)) (asI IntKind.i64)) fun n48 =>
 obind (Option.bind (cell L44 (Addr.add (Addr.mk 0 0 none) 4)) (asI IntKind.i64)) fun n49 =>
 obind (Option.bind (cell L44 (Addr.add (Addr.mk 0 0 none) 5)) (asI IntKind.i64)) fun n50 =>
 obind (Option.bind (cell L44 (Addr.add (Addr.mk 0 0 none) 6)) (asI IntKind.i64)) fun n51 =>
 ok
 (Value.tuple
 #[Value.agg
 #[Value.string s45, Value.int IntKind.i64 n46, Value.int IntKind.i64 n47, Value.int IntKind.i64 n48, Value.int IntKind.i64 n49, Value.int IntKind.i64 n50,
 Value.int IntKind.i64 n51],
 Value.int IntKind.i64 4]))
 (obind (srcOf (L ++ [LBlk.cells [Value.int IntKind.i64 0] 3 false 0]) Tryz.prog.types[3].size 1 (Value.slice (some (Addr.mk (List.length L) 0 none)) 1 1)) fun x52 =>
 obind (app (L ++ [LBlk.cells [Value.int IntKind.i64 0] 3 false 0]) 3 Tryz.prog.types[3].size Tryz.prog.types[3].bytes l2 1 x52) fun x53 =>
 f17_l7 k j7 s0 n1 x53.fst n5 (IntKind.wrap IntKind.i64 (n4 + 1)) x53.snd)))
 (obind (srcOf (L ++ [LBlk.cells [Value.int IntKind.i64 0] 3 false 0]) Tryz.prog.types[3].size 1 (Value.slice (some (Addr.mk (List.length L) 0 none)) 1 1)) fun x54 =>
 obind (app (L ++ [LBlk.cells [Value.int IntKind.i64 0] 3 false 0]) 3 Tryz.prog.types[3].size Tryz.prog.types[3].bytes l2 1 x54) fun x55 =>
 f17_l7 k j7 s0 n1 x55.fst n5 (IntKind.wrap IntKind.i64 (n4 + 1)) x55.snd))))
 (lif (decide ((↑l2.n : Int) ≥ 6))
 (obind
 (stores L (Addr.mk 0 0 none)
 [Value.string (ByteArray.mk #[]), Value.int IntKind.i64 0, Value.int IntKind.i64 0, Value.int IntKind.i64 0, Value.int IntKind.i64 0, Value.int IntKind.i64 0, Value.int IntKind.i64 0])
 fun L56 =>
 obind (Option.bind (cell L56 (Addr.add (Addr.mk 0 0 none) 0)) asS) fun s57 =>
 obind (Option.bind (cell L56 (Addr.add (Addr.mk 0 0 none) 1)) (asI IntKind.i64)) fun n58 =>
 obind (Option.bind (cell L56 (Addr.add (Addr.mk 0 0 none) 2)) (asI IntKind.i64)) fun n59 =>
 obind (Option.bind (cell L56 (Addr.add (Addr.mk 0 0 none) 3)) (asI IntKind.i64)) fun n60 =>
 obind (Option.bind (cell L56 (Addr.add (Addr.mk 0 0 none) 4)) (asI IntKind.i64)) fun n61 =>
 obind (Option.bind (cell L56 (Addr.add (Addr.mk 0 0 none) 5)) (asI IntKind.i64)) fun n62 =>
 obind (Option.bind (cell L56 (Addr.add (Addr.mk 0 0 none) 6)) (asI IntKind.i64)) fun n63 =>
 ok
 (Value.tuple
 #[Value.agg
 #[Value.string s57, Value.int IntKind.i64 n58, Value.int IntKind.i64 n59, Value.int IntKind.i64 n60, Value.int IntKind.i64 n61, Value.int IntKind.i64 n62,
 Value.int IntKind.i64 n63],
 Value.int IntKind.i64 4]))
 (lif (n3 != 0)
 (lif (decide (n3 < 48))
 (obind
 (stores L (Addr.mk 0 0 none)
 [Value.string (ByteArray.mk #[]), Value.int IntKind.i64 0, Value.int IntKind.i64 0, Value.int IntKind.i64 0, Value.int IntKind.i64 0, Value.int IntKind.i64 0, Value.int IntKind.i64 0])
 fun L64 =>
 obind (Option.bind (cell L64 (Addr.add (Addr.mk 0 0 none) 0)) asS) fun s65 =>
 obind (Option.bind (cell L64 (Addr.add (Addr.mk 0 0 none) 1)) (asI IntKind.i64)) fun n66 =>
 obind (Option.bind (cell L64 (Addr.add (Addr.mk 0 0 none) 2)) (asI IntKind.i64)) fun n67 =>
 obind (Option.bind (cell L64 (Addr.add (Addr.mk 0 0 none) 3)) (asI IntKind.i64)) fun n68 =>
 obind (Option.bind (cell L64 (Addr.add (Addr.mk 0 0 none) 4)) (asI IntKind.i64)) fun n69 =>
 obind (Option.bind (cell L64 (Addr.add (Addr.mk 0 0 none) 5)) (asI IntKind.i64)) fun n70 =>
 obind (Option.bind (cell L64 (Addr.add (Addr.mk 0 0 none) 6)) (asI IntKind.i64)) fun n71 =>
 ok
 (Value.tuple
 #[Value.agg
 #[Value.string s65, Value.int IntKind.i64 n66, Value.int IntKind.i64 n67, Value.int IntKind.i64 n68, Value.int IntKind.i64 n69, Value.int IntKind.i64 n70,
 Value.int IntKind.i64 n71],
 Value.int IntKind.i64 4]))
 (lif (decide (n3 > 57))
 (obind
 (stores L (Addr.mk 0 0 none)
 [Value.string (ByteArray.mk #[]), Value.int IntKind.i64 0, Value.int IntKind.i64 0, Value.int IntKind.i64 0, Value.int IntKind.i64 0, Value.int IntKind.i64 0,
 Value.int IntKind.i64 0])
 fun L72 =>
 obind (Option.bind (cell L72 (Addr.add (Addr.mk 0 0 none) 0)) asS) fun s73 =>
 obind (Option.bind (cell L72 (Addr.add (Addr.mk 0 0 none) 1)) (asI IntKind.i64)) fun n74 =>
 obind (Option.bind (cell L72 (Addr.add (Addr.mk 0 0 none) 2)) (asI IntKind.i64)) fun n75 =>
 obind (Option.bind (cell L72 (Addr.add (Addr.mk 0 0 none) 3)) (asI IntKind.i64)) fun n76 =>
 obind (Option.bind (cell L72 (Addr.add (Addr.mk 0 0 none) 4)) (asI IntKind.i64)) fun n77 =>
 obind (Option.bind (cell L72 (Addr.add (Addr.mk 0 0 none) 5)) (asI IntKind.i64)) fun n78 =>
 obind (Option.bind (cell L72 (Addr.add (Addr.mk 0 0 none) 6)) (asI IntKind.i64)) fun n79 =>
 ok
 (Value.tuple
 #[Value.agg
 #[Value.string s73, Value.int IntKind.i64 n74, Value.int IntKind.i64 n75, Value.int IntKind.i64 n76, Value.int IntKind.i64 n77, Value.int IntKind.i64 n78,
 Value.int IntKind.i64 n79],
 Value.int IntKind.i64 4]))
 (obind (srcOf (L ++ [LBlk.cells [Value.int IntKind.i64 0] 3 false 0]) Tryz.prog.types[3].size 1 (Value.slice (some (Addr.mk (List.length L) 0 none)) 1 1)) fun x80 =>
 obind (app (L ++ [LBlk.cells [Value.int IntKind.i64 0] 3 false 0]) 3 Tryz.prog.types[3].size Tryz.prog.types[3].bytes l2 1 x80) fun x81 =>
 f17_l7 k j7 s0 n1 x81.fst n5 (IntKind.wrap IntKind.i64 (n4 + 1)) x81.snd)))
 (obind (srcOf (L ++ [LBlk.cells [Value.int IntKind.i64 0] 3 false 0]) Tryz.prog.types[3].size 1 (Value.slice (some (Addr.mk (List.length L) 0 none)) 1 1)) fun x82 =>
 obind (app (L ++ [LBlk.cells [Value.int IntKind.i64 0] 3 false 0]) 3 Tryz.prog.types[3].size Tryz.prog.types[3].bytes l2 1 x82) fun x83 =>
 f17_l7 k j7 s0 n1 x83.fst n5 (IntKind.wrap IntKind.i64 (n4 + 1)) x83.snd))))
 (lif ((↑l2.n : Int) != 6)
 (obind
 (stores L (Addr.mk 0 0 none)
 [Value.string (ByteArray.mk #[]), Value.int IntKind.i64 0, Value.int IntKind.i64 0, Value.int IntKind.i64 0, Value.int IntKind.i64 0, Value.int IntKind.i64 0, Value.int IntKind.i64 0])
 fun L84 =>
 obind (Option.bind (cell L84 (Addr.add (Addr.mk 0 0 none) 0)) asS) fun s85 =>
 obind (Option.bind (cell L84 (Addr.add (Addr.mk 0 0 none) 1)) (asI IntKind.i64)) fun n86 =>
 obind (Option.bind (cell L84 (Addr.add (Addr.mk 0 0 none) 2)) (asI IntKind.i64)) fun n87 =>
 obind (Option.bind (cell L84 (Addr.add (Addr.mk 0 0 none) 3)) (asI IntKind.i64)) fun n88 =>
 obind (Option.bind (cell L84 (Addr.add (Addr.mk 0 0 none) 4)) (asI IntKind.i64)) fun n89 =>
 obind (Option.bind (cell L84 (Addr.add (Addr.mk 0 0 none) 5)) (asI IntKind.i64)) fun n90 =>
 obind (Option.bind (cell L84 (Addr.add (Addr.mk 0 0 none) 6)) (asI IntKind.i64)) fun n91 =>
 ok
 (Value.tuple
 #[Value.agg
 #[Value.string s85, Value.int IntKind.i64 n86, Value.int IntKind.i64 n87, Value.int IntKind.i64 n88, Value.int IntKind.i64 n89, Value.int IntKind.i64 n90,
 Value.int IntKind.i64 n91],
 Value.int IntKind.i64 4]))
 (obind (subS s0 none (some n1)) fun s92 =>
 obind (idx l2 5 1) fun a93 =>
 obind (Option.bind (cell L a93) (asI IntKind.i64)) fun n94 =>
 obind (idx l2 4 1) fun a95 =>
 obind (Option.bind (cell L a95) (asI IntKind.i64)) fun n96 =>
 obind (idx l2 0 1) fun a97 =>
 obind (Option.bind (cell L a97) (asI IntKind.i64)) fun n98 =>
 obind (idx l2 1 1) fun a99 =>
 obind (Option.bind (cell L a99) (asI IntKind.i64)) fun n100 =>
 obind (idx l2 2 1) fun a101 =>
 obind (Option.bind (cell L a101) (asI IntKind.i64)) fun n102 =>
 obind (idx l2 3 1) fun a103 =>
 obind (Option.bind (cell L a103) (asI IntKind.i64)) fun n104 =>
 obind
 (Option.bind
 (cell
 (L ++
 [LBlk.cells
 [Value.string (ByteArray.mk #[]), Value.int IntKind.i64 0, Value.int IntKind.i64 0, Value.int IntKind.i64 0, Value.int IntKind.i64 0, Value.int IntKind.i64 0,
 Value.int IntKind.i64 0]
 25 false 0])
 a103)
 (asI IntKind.i64))
 fun n105 =>
 when (same (Value.int IntKind.i64 n104) (Value.int IntKind.i64 n105))
 (obind
 (Option.bind
 (cell
 (L ++
 [LBlk.cells
 [Value.string (ByteArray.mk #[]), Value.int IntKind.i64 0, Value.int IntKind.i64 0, Value.int IntKind.i64 0, Value.int IntKind.i64 0,
 Value.int IntKind.i64 0, Value.int IntKind.i64 0]
 25 false 0])
 a101)
 (asI IntKind.i64))
 fun n106 =>
 when (same (Value.int IntKind.i64 n102) (Value.int IntKind.i64 n106))
 (obind
 (Option.bind
 (cell
 (L ++
 [LBlk.cells
 [Value.string (ByteArray.mk #[]), Value.int IntKind.i64 0, Value.int IntKind.i64 0, Value.int IntKind.i64 0, Value.int IntKind.i64 0,
 Value.int IntKind.i64 0, Value.int IntKind.i64 0]
 25 false 0])
 a99)
 (asI IntKind.i64))
 fun n107 =>
 when (same (Value.int IntKind.i64 n100) (Value.int IntKind.i64 n107))
 (obind
 (Option.bind
 (cell
 (L ++
 [LBlk.cells
 [Value.string (ByteArray.mk #[]), Value.int IntKind.i64 0, Value.int IntKind.i64 0, Value.int IntKind.i64 0, Value.int IntKind.i64 0,
 Value.int IntKind.i64 0, Value.int IntKind.i64 0]
 25 false 0])
 a97)
 (asI IntKind.i64))
 fun n108 =>
 when (same (Value.int IntKind.i64 n98) (Value.int IntKind.i64 n108))
 (obind
 (Option.bind
 (cell
 (L ++
 [LBlk.cells
 [Value.string (ByteArray.mk #[]), Value.int IntKind.i64 0, Value.int IntKind.i64 0, Value.int IntKind.i64 0, Value.int IntKind.i64 0,
 Value.int IntKind.i64 0, Value.int IntKind.i64 0]
 25 false 0])
 a95)
 (asI IntKind.i64))
 fun n109 =>
 when (same (Value.int IntKind.i64 n96) (Value.int IntKind.i64 n109))
 (obind
 (Option.bind
 (cell
 (L ++
 [LBlk.cells
 [Value.string (ByteArray.mk #[]), Value.int IntKind.i64 0, Value.int IntKind.i64 0, Value.int IntKind.i64 0, Value.int IntKind.i64 0,
 Value.int IntKind.i64 0, Value.int IntKind.i64 0]
 25 false 0])
 a93)
 (asI IntKind.i64))
 fun n110 =>
 when (same (Value.int IntKind.i64 n94) (Value.int IntKind.i64 n110))
 (obind
 (stores
 (L ++
 [LBlk.cells
 [Value.string (ByteArray.mk #[]), Value.int IntKind.i64 0, Value.int IntKind.i64 0, Value.int IntKind.i64 0, Value.int IntKind.i64 0,
 Value.int IntKind.i64 0, Value.int IntKind.i64 0]
 25 false 0])
 (Addr.mk (List.length L) 0 none)
 [Value.string s92, Value.int IntKind.i64 n94, Value.int IntKind.i64 n96, Value.int IntKind.i64 n98, Value.int IntKind.i64 n100,
 Value.int IntKind.i64 n102, Value.int IntKind.i64 n104])
 fun L111 =>
 obind (Option.bind (cell L111 (Addr.add (Addr.mk (List.length L) 0 none) 0)) asS) fun s112 =>
 obind (Option.bind (cell L111 (Addr.add (Addr.mk (List.length L) 0 none) 1)) (asI IntKind.i64)) fun n113 =>
 obind (Option.bind (cell L111 (Addr.add (Addr.mk (List.length L) 0 none) 2)) (asI IntKind.i64)) fun n114 =>
 obind (Option.bind (cell L111 (Addr.add (Addr.mk (List.length L) 0 none) 3)) (asI IntKind.i64)) fun n115 =>
 obind (Option.bind (cell L111 (Addr.add (Addr.mk (List.length L) 0 none) 4)) (asI IntKind.i64)) fun n116 =>
 obind (Option.bind (cell L111 (Addr.add (Addr.mk (List.length L) 0 none) 5)) (asI IntKind.i64)) fun n117 =>
 obind (Option.bind (cell L111 (Addr.add (Addr.mk (List.length L) 0 none) 6)) (asI IntKind.i64)) fun n118 =>
 lif (nameE (Plc.mk s112 n113 n114 n115 n116 n117 n118) != 0)
 (obind
 (stores L111 (Addr.mk 0 0 none)
 [Value.string (ByteArray.mk #[]), Value.int IntKind.i64 0, Value.int IntKind.i64 0, Value.int IntKind.i64 0,
 Value.int IntKind.i64 0, Value.int IntKind.i64 0, Value.int IntKind.i64 0])
 fun L119 =>
 obind (Option.bind (cell L119 (Addr.add (Addr.mk 0 0 none) 0)) asS) fun s120 =>
 obind (Option.bind (cell L119 (Addr.add (Addr.mk 0 0 none) 1)) (asI IntKind.i64)) fun n121 =>
 obind (Option.bind (cell L119 (Addr.add (Addr.mk 0 0 none) 2)) (asI IntKind.i64)) fun n122 =>
 obind (Option.bind (cell L119 (Addr.add (Addr.mk 0 0 none) 3)) (asI IntKind.i64)) fun n123 =>
 obind (Option.bind (cell L119 (Addr.add (Addr.mk 0 0 none) 4)) (asI IntKind.i64)) fun n124 =>
 obind (Option.bind (cell L119 (Addr.add (Addr.mk 0 0 none) 5)) (asI IntKind.i64)) fun n125 =>
 obind (Option.bind (cell L119 (Addr.add (Addr.mk 0 0 none) 6)) (asI IntKind.i64)) fun n126 =>
 ok
 (Value.tuple
 #[Value.agg
 #[Value.string s120, Value.int IntKind.i64 n121, Value.int IntKind.i64 n122, Value.int IntKind.i64 n123,
 Value.int IntKind.i64 n124, Value.int IntKind.i64 n125, Value.int IntKind.i64 n126],
 Value.int IntKind.i64 4]))
 (lif (!ByteArray.toList (nameS (Plc.mk s112 n113 n114 n115 n116 n117 n118)) == ByteArray.toList s0)
 (obind
 (stores L111 (Addr.mk 0 0 none)
 [Value.string (ByteArray.mk #[]), Value.int IntKind.i64 0, Value.int IntKind.i64 0, Value.int IntKind.i64 0,
 Value.int IntKind.i64 0, Value.int IntKind.i64 0, Value.int IntKind.i64 0])
 fun L127 =>
 obind (Option.bind (cell L127 (Addr.add (Addr.mk 0 0 none) 0)) asS) fun s128 =>
 obind (Option.bind (cell L127 (Addr.add (Addr.mk 0 0 none) 1)) (asI IntKind.i64)) fun n129 =>
 obind (Option.bind (cell L127 (Addr.add (Addr.mk 0 0 none) 2)) (asI IntKind.i64)) fun n130 =>
 obind (Option.bind (cell L127 (Addr.add (Addr.mk 0 0 none) 3)) (asI IntKind.i64)) fun n131 =>
 obind (Option.bind (cell L127 (Addr.add (Addr.mk 0 0 none) 4)) (asI IntKind.i64)) fun n132 =>
 obind (Option.bind (cell L127 (Addr.add (Addr.mk 0 0 none) 5)) (asI IntKind.i64)) fun n133 =>
 obind (Option.bind (cell L127 (Addr.add (Addr.mk 0 0 none) 6)) (asI IntKind.i64)) fun n134 =>
 ok
 (Value.tuple
 #[Value.agg
 #[Value.string s128, Value.int IntKind.i64 n129, Value.int IntKind.i64 n130,
 Value.int IntKind.i64 n131, Value.int IntKind.i64 n132, Value.int IntKind.i64 n133,
 Value.int IntKind.i64 n134],
 Value.int IntKind.i64 4]))
 (obind (Option.bind (cell L111 (Addr.add (Addr.mk (List.length L) 0 none) 0)) asS) fun s135 =>
 obind (Option.bind (cell L111 (Addr.add (Addr.mk (List.length L) 0 none) 1)) (asI IntKind.i64)) fun n136 =>
 obind (Option.bind (cell L111 (Addr.add (Addr.mk (List.length L) 0 none) 2)) (asI IntKind.i64)) fun n137 =>
 obind (Option.bind (cell L111 (Addr.add (Addr.mk (List.length L) 0 none) 3)) (asI IntKind.i64)) fun n138 =>
 obind (Option.bind (cell L111 (Addr.add (Addr.mk (List.length L) 0 none) 4)) (asI IntKind.i64)) fun n139 =>
 obind (Option.bind (cell L111 (Addr.add (Addr.mk (List.length L) 0 none) 5)) (asI IntKind.i64)) fun n140 =>
 obind (Option.bind (cell L111 (Addr.add (Addr.mk (List.length L) 0 none) 6)) (asI IntKind.i64)) fun n141 =>
 obind
 (stores L111 (Addr.mk 0 0 none)
 [Value.string s135, Value.int IntKind.i64 n136, Value.int IntKind.i64 n137, Value.int IntKind.i64 n138,
 Value.int IntKind.i64 n139, Value.int IntKind.i64 n140, Value.int IntKind.i64 n141])
 fun L142 =>
 obind (Option.bind (cell L142 (Addr.add (Addr.mk 0 0 none) 0)) asS) fun s143 =>
 obind (Option.bind (cell L142 (Addr.add (Addr.mk 0 0 none) 1)) (asI IntKind.i64)) fun n144 =>
 obind (Option.bind (cell L142 (Addr.add (Addr.mk 0 0 none) 2)) (asI IntKind.i64)) fun n145 =>
 obind (Option.bind (cell L142 (Addr.add (Addr.mk 0 0 none) 3)) (asI IntKind.i64)) fun n146 =>
 obind (Option.bind (cell L142 (Addr.add (Addr.mk 0 0 none) 4)) (asI IntKind.i64)) fun n147 =>
 obind (Option.bind (cell L142 (Addr.add (Addr.mk 0 0 none) 5)) (asI IntKind.i64)) fun n148 =>
 obind (Option.bind (cell L142 (Addr.add (Addr.mk 0 0 none) 6)) (asI IntKind.i64)) fun n149 =>
 ok
 (Value.tuple
 #[Value.agg
 #[Value.string s143, Value.int IntKind.i64 n144, Value.int IntKind.i64 n145,
 Value.int IntKind.i64 n146, Value.int IntKind.i64 n147, Value.int IntKind.i64 n148,
 Value.int IntKind.i64 n149],
 Value.int IntKind.i64 0]))))))))))) := by kernel_rfl
end Go.Proofs.YtffcfaabjodpcaaGreatDoor.Pn
end

section
set_option maxRecDepth 100000
namespace Go.Proofs.YtffcfaabjodpcaaGreatDoor
open Go Go.Rlm
def failV : R := ok (.tuple #[.agg #[.string ⟨#[]⟩, .int .i64 0, .int .i64 0, .int .i64 0, .int .i64 0, .int .i64 0, .int .i64 0], .int .i64 4])
def zcell : List Value := [.string ⟨#[]⟩, .int .i64 0, .int .i64 0, .int .i64 0, .int .i64 0, .int .i64 0, .int .i64 0]
theorem place_cell {L : LHeap} {r : Nat} {s : ByteArray} {a b c d e f : Int} (h : L[r]? = some (.cells [.string s, .int .i64 a, .int .i64 b, .int .i64 c, .int .i64 d, .int .i64 e, .int .i64 f] 25 false 0)) :
    (cell L (Addr.add ⟨r, 0, none⟩ 0)).bind asS = some s ∧ (cell L (Addr.add ⟨r, 0, none⟩ 1)).bind (asI .i64) = some a ∧ (cell L (Addr.add ⟨r, 0, none⟩ 2)).bind (asI .i64) = some b ∧ (cell L (Addr.add ⟨r, 0, none⟩ 3)).bind (asI .i64) = some c ∧
      (cell L (Addr.add ⟨r, 0, none⟩ 4)).bind (asI .i64) = some d ∧ (cell L (Addr.add ⟨r, 0, none⟩ 5)).bind (asI .i64) = some e ∧ (cell L (Addr.add ⟨r, 0, none⟩ 6)).bind (asI .i64) = some f := by
  have g : ∀ o, cell L (Addr.add ⟨r, 0, none⟩ o) = [Value.string s, .int .i64 a, .int .i64 b, .int .i64 c, .int .i64 d, .int .i64 e, .int .i64 f][o]? := fun o => by rw [mk_add, Nat.zero_add]; exact cell_of h
  refine ⟨?_, ?_, ?_, ?_, ?_, ?_, ?_⟩ <;> (rw [g]; rfl)
theorem place_put {L : LHeap} {r : Nat} {cs : List Value} (h : L[r]? = some (.cells cs 25 false 0)) (hl : cs.length = 7) {s : ByteArray} {a b c d e f : Int} :
    stores L ⟨r, 0, none⟩ [.string s, .int .i64 a, .int .i64 b, .int .i64 c, .int .i64 d, .int .i64 e, .int .i64 f] = some (L.set r (.cells [.string s, .int .i64 a, .int .i64 b, .int .i64 c, .int .i64 d, .int .i64 e, .int .i64 f] 25 false 0)) := by
  rw [stores_of h (by simp [hl])]
  obtain ⟨x0, x1, x2, x3, x4, x5, x6, rfl⟩ : ∃ x0 x1 x2 x3 x4 x5 x6, cs = [x0, x1, x2, x3, x4, x5, x6] := by
    match cs, hl with
    | [x0, x1, x2, x3, x4, x5, x6], _ => exact ⟨_, _, _, _, _, _, _, rfl⟩
  rfl
/-- What is told in the end. -/
theorem told_place {L : LHeap} {cs : List Value} (h : L[0]? = some (.cells cs 25 false 0)) (hl : cs.length = 7) {s : ByteArray} {a b c d e f x : Int} :
    (obind (stores L (Addr.mk 0 0 none) [.string s, .int .i64 a, .int .i64 b, .int .i64 c, .int .i64 d, .int .i64 e, .int .i64 f]) fun L6 =>
      obind ((cell L6 (Addr.add (Addr.mk 0 0 none) 0)).bind asS) fun s7 => obind ((cell L6 (Addr.add (Addr.mk 0 0 none) 1)).bind (asI .i64)) fun n8 => obind ((cell L6 (Addr.add (Addr.mk 0 0 none) 2)).bind (asI .i64)) fun n9 =>
      obind ((cell L6 (Addr.add (Addr.mk 0 0 none) 3)).bind (asI .i64)) fun n10 => obind ((cell L6 (Addr.add (Addr.mk 0 0 none) 4)).bind (asI .i64)) fun n11 => obind ((cell L6 (Addr.add (Addr.mk 0 0 none) 5)).bind (asI .i64)) fun n12 =>
      obind ((cell L6 (Addr.add (Addr.mk 0 0 none) 6)).bind (asI .i64)) fun n13 => ok (.tuple #[.agg #[.string s7, .int .i64 n8, .int .i64 n9, .int .i64 n10, .int .i64 n11, .int .i64 n12, .int .i64 n13], .int .i64 x])) =
      ok (.tuple #[.agg #[.string s, .int .i64 a, .int .i64 b, .int .i64 c, .int .i64 d, .int .i64 e, .int .i64 f], .int .i64 x]) := by
  rw [place_put h hl, obind_some]
  have hg : (L.set 0 (LBlk.cells [.string s, .int .i64 a, .int .i64 b, .int .i64 c, .int .i64 d, .int .i64 e, .int .i64 f] 25 false 0))[0]? = some (.cells [.string s, .int .i64 a, .int .i64 b, .int .i64 c, .int .i64 d, .int .i64 e, .int .i64 f] 25 false 0) := get_set_self h
  obtain ⟨q0, q1, q2, q3, q4, q5, q6⟩ := place_cell hg
  rw [q0, obind_some, q1, obind_some, q2, obind_some, q3, obind_some, q4, obind_some, q5, obind_some, q6, obind_some]
/-- One byte behind the dot. -/
def rstep (l : List Nat) (last c : Nat) : Option (List Nat) :=
  if 48 ≤ c ∧ c ≤ 57 then (if l = [] then none else if l.getLastD 0 > 100000 then none else some (l.dropLast ++ [l.getLastD 0 * 10 + c - 48]))
  else if 6 ≤ l.length then none else if last ≠ 0 ∧ (last < 48 ∨ 57 < last) then none else some (l ++ [0])
def rrun : List Nat → List Nat → Nat → Option (List Nat)
  | [], l, _ => some l
  | c :: cs, l, last => match rstep l last c with | none => none | some l' => rrun cs l' c
theorem size3 : Tryz.prog.types[3].size = 1 := by kernel_rfl
theorem bytes3 : Tryz.prog.types[3].bytes = 8 := by kernel_rfl
/-- Where the loop stands. -/
structure At (L : LHeap) (s : Sl) (l : List Nat) : Prop where
  os : ∃ F, OS L s (l.map fun n : Nat => .int .i64 (n : Int)) 3 F ∧ 0 ∉ F
  out : L[0]? = some (.cells zcell 25 false 0)
  few : l.length ≤ 6
  small : ∀ n ∈ l, n ≤ 2000000
theorem At.len {L : LHeap} {s : Sl} {l : List Nat} (h : At L s l) : s.n = l.length := by
  obtain ⟨F, h1, _⟩ := h.os
  rw [h1.len, List.length_map]
theorem parse_step {k j : Nat} {l0 : List UInt8} {n1 : Int} {L : LHeap} {s : Sl} {l : List Nat} {last i : Nat} (h : At L s l) (hl0 : l0.length ≤ 1000000) (hi : i < l0.length) (hlast : last < 256) :
    match rstep l last l0[i].toNat with
    | none => Pn.f17_l7 k (j + 1) (bs l0) n1 s (last : Int) (i : Int) L = failV
    | some l' => ∃ L' s', Pn.f17_l7 k (j + 1) (bs l0) n1 s (last : Int) (i : Int) L = Pn.f17_l7 k j (bs l0) n1 s' ((l0[i].toNat : Nat) : Int) ((i + 1 : Nat) : Int) L' ∧ At L' s' l' := by
  have hn := h.len
  obtain ⟨F, hos, h0⟩ := h.os
  have hz : zcell.length = 7 := rfl
  have hc := l0[i].toNat_lt
  generalize hcc : l0[i].toNat = c at hc ⊢
  generalize hE : Pn.f17_l7 k (j + 1) (bs l0) n1 s (last : Int) (i : Int) L = E
  unfold rstep
  have happ : ∃ L' s', (obind (srcOf (L ++ [LBlk.cells [Value.int IntKind.i64 0] 3 false 0]) Tryz.prog.types[3].size 1 (Value.slice (some (Addr.mk (List.length L) 0 none)) 1 1)) fun x52 =>
      obind (Rlm.app (L ++ [LBlk.cells [Value.int IntKind.i64 0] 3 false 0]) 3 Tryz.prog.types[3].size Tryz.prog.types[3].bytes s 1 x52) fun x53 =>
        Pn.f17_l7 k j (bs l0) n1 x53.fst (c : Int) ((i + 1 : Nat) : Int) x53.snd) = Pn.f17_l7 k j (bs l0) n1 s' (c : Int) ((i + 1 : Nat) : Int) L' ∧ (l.length < 6 → At L' s' (l ++ [0])) := by
    have hw : WS (L ++ [LBlk.cells [Value.int IntKind.i64 0] 3 false 0]) ⟨some ⟨L.length, 0, none⟩, 1, 1⟩ [Value.int IntKind.i64 0] 3 [L.length] := WS.lit rfl
    have hsrc := hw.rd.src
    have hos' := hos.mono (L' := L ++ [LBlk.cells [Value.int IntKind.i64 0] 3 false 0]) fun i hi => get_push (hos.within i hi)
    have hfew := h.few
    obtain ⟨s', L', F', g1, g2, g3⟩ := hos'.app [Value.int IntKind.i64 0] 8 (by simp; omega) (by simp; omega)
    have h0' : 0 < L.length := get_lt h.out
    refine ⟨L', s', ?_, fun hlt => ⟨⟨F', by rw [List.map_append]; exact g2, fun hf => ?_⟩, ?_, by simp; omega, fun n hn => ?_⟩⟩
    · rw [size3, bytes3, show srcOf (L ++ [LBlk.cells [Value.int IntKind.i64 0] 3 false 0]) 1 1 (Value.slice (some (Addr.mk (List.length L) 0 none)) 1 1) = some [Value.int IntKind.i64 0] from hsrc, obind_some, show Rlm.app (L ++ [LBlk.cells [Value.int IntKind.i64 0] 3 false 0]) 3 1 8 s 1 [Value.int IntKind.i64 0] = some (s', L') from g1, obind_some]
    · rcases g3.foot 0 hf with hf | hf
      · exact h0 hf
      · simp at hf
    · rw [g3.keep 0 (by simp) h0, get_push h0']; exact h.out
    · rcases List.mem_append.1 hn with hn | hn
      · exact h.small n hn
      · simp at hn; omega
  rw [Pn.f17_l7_eq, bs_size, decide_eq_true (by omega), lif_true, byteAt_bs hi, hcc, obind_some, wI64 (n := (i : Int) + 1) (by omega) (by omega), show (i : Int) + 1 = ((i + 1 : Nat) : Int) by omega] at hE
  have ftold := told_place h.out hz (s := ⟨#[]⟩) (a := 0) (b := 0) (c := 0) (d := 0) (e := 0) (f := 0) (x := 4)
  rw [show (ok (.tuple #[.agg #[.string ⟨#[]⟩, .int .i64 0, .int .i64 0, .int .i64 0, .int .i64 0, .int .i64 0, .int .i64 0], .int .i64 4])) = failV from rfl] at ftold
  rw [ftold] at hE
  by_cases hd : 48 ≤ c ∧ c ≤ 57
  · rw [decide_eq_true (show (c : Int) ≥ 48 by omega), lif_true, decide_eq_true (show (c : Int) ≤ 57 by omega), lif_true, hn] at hE
    rw [if_pos hd]
    by_cases hnil : l = []
    · rw [if_pos hnil]
      rw [hnil, show ((((([] : List Nat).length : Nat) : Int)) == 0) = true from rfl, lif_true] at hE
      exact hE.symm
    rw [if_neg hnil]
    have hpos : 0 < l.length := List.length_pos_iff.2 hnil
    have hfew := h.few
    have hlastD : l.getLastD 0 = l[l.length - 1] := by rw [List.getLastD_eq_getLast?, List.getLast?_eq_getElem?, List.getElem?_eq_getElem (by omega)]; rfl
    have hg : (l.map fun n : Nat => Value.int .i64 (n : Int))[l.length - 1]? = some (.int .i64 (l.getLastD 0 : Nat)) := by rw [List.getElem?_map, List.getElem?_eq_getElem (by omega), hlastD]; rfl
    obtain ⟨a, a1, a2⟩ := hos.get hg
    have hsm : l.getLastD 0 ≤ 2000000 := by rw [hlastD]; exact h.small _ (List.getElem_mem _)
    generalize hv : l.getLastD 0 = v at hg a2 hsm ⊢
    rw [show ((l.length : Int) == 0) = false by simp; omega, lif_false, wI64 (n := (l.length : Int) - 1) (by omega) (by omega), show (l.length : Int) - 1 = ((l.length - 1 : Nat) : Int) by omega, a1, obind_some, a2, Option.bind_some, asI_int, obind_some] at hE
    by_cases hbig : v > 100000
    · rw [if_pos hbig]
      rw [decide_eq_true (by omega), lif_true] at hE
      exact hE.symm
    rw [if_neg hbig]
    obtain ⟨a', L', b1, b2, b3, b4⟩ := hos.put (i := l.length - 1) (by simp; omega) (.int .i64 ((v * 10 + c - 48 : Nat) : Int))
    rw [a1] at b1
    injection b1 with b1
    subst b1
    have hval : IntKind.wrap .i64 (IntKind.wrap .i64 (IntKind.wrap .i64 ((v : Int) * 10) + IntKind.wrap .i64 (c : Int)) - 48) = ((v * 10 + c - 48 : Nat) : Int) := by
      rw [wI64 (n := (v : Int) * 10) (by omega) (by omega), wI64 (n := (c : Int)) (by omega) (by omega), wI64 (n := (v : Int) * 10 + (c : Int)) (by omega) (by omega), wI64 (by omega) (by omega)]
      omega
    rw [decide_eq_false (by omega), lif_false, obind_some, a2, Option.bind_some, asI_int, obind_some, obind_some, hval, b2, obind_some] at hE
    have hset : l.set (l.length - 1) (v * 10 + c - 48) = l.dropLast ++ [v * 10 + c - 48] := by
      obtain ⟨m, x, rfl⟩ : ∃ m x, l = m ++ [x] := ⟨l.dropLast, l.getLast hnil, (List.dropLast_concat_getLast hnil).symm⟩
      simp
    refine ⟨L', s, hE.symm, ⟨⟨F, ?_, h0⟩, ?_, ?_, fun n hn => ?_⟩⟩
    · rw [← hset, List.map_set]
      exact b3
    · rw [b4.keep 0 (get_lt h.out) h0]; exact h.out
    · rw [← hset, List.length_set]; exact h.few
    · rcases List.mem_append.1 hn with hn | hn
      · exact h.small n (List.dropLast_subset _ hn)
      · simp at hn; omega
  · rw [if_neg hd]
    obtain ⟨L', s', g1, g2⟩ := happ
    rw [g1] at hE
    have hE : lif (decide ((s.n : Int) ≥ 6)) failV (lif ((last : Int) != 0) (lif (decide ((last : Int) < 48)) failV (lif (decide ((last : Int) > 57)) failV (Pn.f17_l7 k j (bs l0) n1 s' (c : Int) ((i + 1 : Nat) : Int) L'))) (Pn.f17_l7 k j (bs l0) n1 s' (c : Int) ((i + 1 : Nat) : Int) L')) = E := by
      by_cases h48 : (c : Int) ≥ 48
      · rw [decide_eq_true h48, lif_true, decide_eq_false (by omega), lif_false] at hE
        exact hE
      · rw [decide_eq_false h48, lif_false] at hE
        exact hE
    by_cases h6 : 6 ≤ l.length
    · rw [if_pos h6]
      rw [decide_eq_true (by omega), lif_true] at hE
      exact hE.symm
    rw [if_neg h6]
    rw [decide_eq_false (by omega), lif_false] at hE
    by_cases hl : last ≠ 0 ∧ (last < 48 ∨ 57 < last)
    · rw [if_pos hl]
      rw [show ((last : Int) != 0) = true by simp; omega, lif_true] at hE
      by_cases h48 : (last : Int) < 48
      · rw [decide_eq_true h48, lif_true] at hE
        exact hE.symm
      · rw [decide_eq_false h48, lif_false, decide_eq_true (by omega), lif_true] at hE
        exact hE.symm
    · rw [if_neg hl]
      refine ⟨L', s', ?_, g2 (by omega)⟩
      by_cases hz : last = 0
      · subst hz
        rw [show (((0 : Nat) : Int) != 0) = false from rfl, lif_false] at hE
        exact hE.symm
      · rw [show ((last : Int) != 0) = true by simp; omega, lif_true, decide_eq_false (by omega), lif_false, decide_eq_false (by omega), lif_false] at hE
        exact hE.symm
theorem refparse_loop {k : Nat} {l0 : List UInt8} {n1 : Int} (hl0 : l0.length ≤ 1000000) : ∀ (t i j : Nat) (L : LHeap) (s : Sl) (l : List Nat) (last : Nat), At L s l → i + t = l0.length → t < j → last < 256 →
    match rrun ((l0.drop i).map UInt8.toNat) l last with
    | none => Pn.f17_l7 k j (bs l0) n1 s (last : Int) (i : Int) L = failV
    | some l' => ∃ (L' : LHeap) (s' : Sl) (j' last' : Nat), Pn.f17_l7 k j (bs l0) n1 s (last : Int) (i : Int) L = Pn.f17_l7 k (j' + 1) (bs l0) n1 s' (last' : Int) (l0.length : Int) L' ∧ At L' s' l' := by
  intro t
  induction t with
  | zero =>
    intro i j L s l last h hi hj _
    rw [List.drop_of_length_le (by omega)]
    exact ⟨L, s, j - 1, last, by rw [show j - 1 + 1 = j by omega, show i = l0.length by omega], h⟩
  | succ t ih =>
    intro i j L s l last h hi hj hlast
    obtain ⟨j, rfl⟩ : ∃ j', j = j' + 1 := ⟨j - 1, by omega⟩
    have hlt : i < l0.length := by omega
    have hst := parse_step (k := k) (j := j) (n1 := n1) h hl0 hlt hlast
    rw [List.drop_eq_getElem_cons hlt, List.map_cons]
    cases hr : rstep l last l0[i].toNat with
    | none =>
      rw [hr] at hst
      simp only [rrun, hr]
      exact hst
    | some l' =>
      rw [hr] at hst
      simp only [rrun, hr]
      obtain ⟨L', s', e1, e2⟩ := hst
      have := ih (i + 1) j L' s' l' l0[i].toNat e2 (by omega) (by omega) l0[i].toNat_lt
      rw [e1]
      exact this
end Go.Proofs.YtffcfaabjodpcaaGreatDoor
end

section
set_option maxRecDepth 100000
namespace Go.Proofs.YtffcfaabjodpcaaGreatDoor
open Go Go.Rlm
theorem At.cell {L : LHeap} {s : Sl} {l : List Nat} (h : At L s l) (X : LHeap) {i : Nat} {v : Nat} (hi : l[i]? = some v) :
    ∃ a, idx s (i : Int) 1 = some a ∧ (cell L a).bind (asI .i64) = some (v : Int) ∧ (cell (L ++ X) a).bind (asI .i64) = some (v : Int) := by
  obtain ⟨F, hos, _⟩ := h.os
  have hos' := hos.mono (L' := L ++ X) fun i hi => get_push (hos.within i hi)
  have hg : (l.map fun n : Nat => Value.int .i64 (n : Int))[i]? = some (.int .i64 (v : Int)) := by rw [List.getElem?_map, hi]; rfl
  obtain ⟨a, a1, a2⟩ := hos.get hg
  obtain ⟨b, b1, b2⟩ := hos'.get hg
  rw [a1] at b1
  injection b1 with b1
  subst b1
  exact ⟨a, a1, by rw [a2, Option.bind_some, asI_int], by rw [b2, Option.bind_some, asI_int]⟩
theorem lif_same {b : Bool} {x x' y y' : R} (hx : x = x') (hy : y = y') : lif b x y = lif b x' y' := by rw [hx, hy]
def tailR (s : ByteArray) (q : Plc) : R :=
  lif (nameE q != 0) failV (lif (!(nameS q).toList == s.toList) failV (ok (.tuple #[.agg #[.string q.base, .int .i64 q.idx, .int .i64 q.k, .int .i64 q.d, .int .i64 q.r, .int .i64 q.z, .int .i64 q.m], .int .i64 0])))
theorem tail_short {k j : Nat} {l0 : List UInt8} {n1 n4 last : Int} {L : LHeap} {s : Sl} {l : List Nat} (h : At L s l) (hn : (l0.length : Int) ≤ n4) (hl : l.length ≠ 6) :
    Pn.f17_l7 k (j + 1) (bs l0) n1 s last n4 L = failV := by
  have hlen := h.len
  rw [Pn.f17_l7_eq, bs_size, decide_eq_false (by omega), lif_false, show ((s.n : Int) != 6) = true by simp; omega, lif_true]
  exact told_place h.out rfl
theorem tail_six {k j : Nat} {l0 : List UInt8} {dot : Nat} {n4 last : Int} {L : LHeap} {s : Sl} {d r z m kk i : Nat} (h : At L s [d, r, z, m, kk, i]) (hn : (l0.length : Int) ≤ n4) (hd : dot ≤ l0.length) :
    Pn.f17_l7 k (j + 1) (bs l0) (dot : Int) s last n4 L = tailR (bs l0) ⟨bs (l0.take dot), i, kk, d, r, z, m⟩ := by
  have hlen := h.len
  have e1 : subS (bs l0) none (some (dot : Int)) = some (bs (l0.take dot)) := by
    simp only [subS, bound_at (bs l0).size (show dot ≤ (bs l0).size by rw [bs_size]; exact hd), bound_out (Nat.zero_le dot), Option.bind_eq_bind, Option.bind_some]
    rw [bs_extract]
    rfl
  obtain ⟨a5, p5, q5, r5⟩ := h.cell [LBlk.cells [.string ⟨#[]⟩, .int .i64 0, .int .i64 0, .int .i64 0, .int .i64 0, .int .i64 0, .int .i64 0] 25 false 0] (i := 5) rfl
  obtain ⟨a4, p4, q4, r4⟩ := h.cell [LBlk.cells [.string ⟨#[]⟩, .int .i64 0, .int .i64 0, .int .i64 0, .int .i64 0, .int .i64 0, .int .i64 0] 25 false 0] (i := 4) rfl
  obtain ⟨a0, p0, q0, r0⟩ := h.cell [LBlk.cells [.string ⟨#[]⟩, .int .i64 0, .int .i64 0, .int .i64 0, .int .i64 0, .int .i64 0, .int .i64 0] 25 false 0] (i := 0) rfl
  obtain ⟨a1, p1, q1, r1⟩ := h.cell [LBlk.cells [.string ⟨#[]⟩, .int .i64 0, .int .i64 0, .int .i64 0, .int .i64 0, .int .i64 0, .int .i64 0] 25 false 0] (i := 1) rfl
  obtain ⟨a2, p2, q2, r2⟩ := h.cell [LBlk.cells [.string ⟨#[]⟩, .int .i64 0, .int .i64 0, .int .i64 0, .int .i64 0, .int .i64 0, .int .i64 0] 25 false 0] (i := 2) rfl
  obtain ⟨a3, p3, q3, r3⟩ := h.cell [LBlk.cells [.string ⟨#[]⟩, .int .i64 0, .int .i64 0, .int .i64 0, .int .i64 0, .int .i64 0, .int .i64 0] 25 false 0] (i := 3) rfl
  have hL : 0 < L.length := get_lt h.out
  have hlast : (L ++ [LBlk.cells [.string ⟨#[]⟩, .int .i64 0, .int .i64 0, .int .i64 0, .int .i64 0, .int .i64 0, .int .i64 0] 25 false 0])[L.length]? = some (LBlk.cells [.string ⟨#[]⟩, .int .i64 0, .int .i64 0, .int .i64 0, .int .i64 0, .int .i64 0, .int .i64 0] 25 false 0) := by simp
  have hput := place_put hlast rfl (s := bs (l0.take dot)) (a := (i : Int)) (b := (kk : Int)) (c := (d : Int)) (d := (r : Int)) (e := (z : Int)) (f := (m : Int))
  have hget := get_set_self (x := LBlk.cells [.string (bs (l0.take dot)), .int .i64 (i : Int), .int .i64 (kk : Int), .int .i64 (d : Int), .int .i64 (r : Int), .int .i64 (z : Int), .int .i64 (m : Int)] 25 false 0) hlast
  have hout : ((L ++ [LBlk.cells [.string ⟨#[]⟩, .int .i64 0, .int .i64 0, .int .i64 0, .int .i64 0, .int .i64 0, .int .i64 0] 25 false 0]).set L.length (LBlk.cells [.string (bs (l0.take dot)), .int .i64 (i : Int), .int .i64 (kk : Int), .int .i64 (d : Int), .int .i64 (r : Int), .int .i64 (z : Int), .int .i64 (m : Int)] 25 false 0))[0]? = some (.cells zcell 25 false 0) := by
    rw [get_set_ne (by omega), get_push hL]; exact h.out
  generalize hL1 : (L ++ [LBlk.cells [.string ⟨#[]⟩, .int .i64 0, .int .i64 0, .int .i64 0, .int .i64 0, .int .i64 0, .int .i64 0] 25 false 0]).set L.length (LBlk.cells [.string (bs (l0.take dot)), .int .i64 (i : Int), .int .i64 (kk : Int), .int .i64 (d : Int), .int .i64 (r : Int), .int .i64 (z : Int), .int .i64 (m : Int)] 25 false 0) = L1 at hput hget hout
  obtain ⟨c0, c1, c2, c3, c4, c5, c6⟩ := place_cell hget
  generalize hE : Pn.f17_l7 k (j + 1) (bs l0) (dot : Int) s last n4 L = E
  rw [Pn.f17_l7_eq, bs_size, decide_eq_false (by omega), lif_false, show ((s.n : Int) != 6) = false by rw [hlen]; rfl, lif_false, e1, obind_some,
    show idx s 5 1 = some a5 from p5, obind_some, q5, obind_some, show idx s 4 1 = some a4 from p4, obind_some, q4, obind_some, show idx s 0 1 = some a0 from p0, obind_some, q0, obind_some,
    show idx s 1 1 = some a1 from p1, obind_some, q1, obind_some, show idx s 2 1 = some a2 from p2, obind_some, q2, obind_some, show idx s 3 1 = some a3 from p3, obind_some, q3, obind_some,
    r3, obind_some, same_self, when_true, r2, obind_some, same_self, when_true, r1, obind_some, same_self, when_true, r0, obind_some, same_self, when_true, r4, obind_some, same_self, when_true, r5, obind_some, same_self, when_true,
    hput, obind_some, c0, obind_some, c1, obind_some, c2, obind_some, c3, obind_some, c4, obind_some, c5, obind_some, c6, obind_some] at hE
  rw [← hE]
  unfold tailR
  have f1 := told_place hout rfl (s := ⟨#[]⟩) (a := 0) (b := 0) (c := 0) (d := 0) (e := 0) (f := 0) (x := 4)
  have f2 := told_place hout rfl (s := bs (l0.take dot)) (a := (i : Int)) (b := (kk : Int)) (c := (d : Int)) (d := (r : Int)) (e := (z : Int)) (f := (m : Int)) (x := 0)
  refine lif_same f1 (lif_same f1 ?_)
  exact f2
theorem dot_loop {k : Nat} {a rest : List UInt8} (ha : (46 : UInt8) ∉ a) (hr : rest = [] ∨ ∃ b, rest = 46 :: b) (hlen : (a ++ rest).length ≤ 1000000) : ∀ (t i j : Nat), i + t = a.length → t < j →
    Pn.f17_l2 k j (bs (a ++ rest)) (i : Int) ⟨#[]⟩ 0 0 0 0 0 0 = Pn.f17_l7 k k (bs (a ++ rest)) (a.length : Int) ⟨none, 0, 0⟩ 0 ((a.length + 1 : Nat) : Int) [.cells zcell 25 false 0] := by
  intro t
  induction t with
  | zero =>
    intro i j hi hj
    obtain ⟨j, rfl⟩ : ∃ j', j = j' + 1 := ⟨j - 1, by omega⟩
    obtain rfl : i = a.length := by omega
    have hw : IntKind.wrap .i64 ((a.length : Int) + 1) = ((a.length + 1 : Nat) : Int) := by
      rw [List.length_append] at hlen
      rw [wI64 (by omega) (by omega)]; omega
    rw [Pn.f17_l2_eq, bs_size]
    rcases hr with rfl | ⟨b, rfl⟩
    · rw [decide_eq_false (by simp), lif_false, hw]
      rfl
    · have hb : byteAt (bs (a ++ 46 :: b)) (a.length : Int) = some 46 := by
        rw [byteAt_bs (by simp)]
        simp
      rw [decide_eq_true (by simp; omega), lif_true, hb, obind_some, show ((46 : Int) != 46) = false from rfl, lif_false, hw]
      rfl
  | succ t ih =>
    intro i j hi hj
    obtain ⟨j, rfl⟩ : ∃ j', j = j' + 1 := ⟨j - 1, by omega⟩
    have hlt : i < a.length := by omega
    have hlt' : i < (a ++ rest).length := by rw [List.length_append]; omega
    have hne : a[i] ≠ 46 := fun e => ha (e ▸ List.getElem_mem hlt)
    have hn : ((a[i].toNat : Nat) : Int) ≠ 46 := fun e => hne (UInt8.toNat_inj.1 (by show _ = 46; omega))
    rw [Pn.f17_l2_eq, bs_size, decide_eq_true (by omega), lif_true, byteAt_bs hlt', List.getElem_append_left hlt, obind_some, show (((a[i].toNat : Nat) : Int) != 46) = true by simpa using hn, lif_true, wI64 (by omega) (by omega), show (i : Int) + 1 = ((i + 1 : Nat) : Int) by omega]
    exact ih (i + 1) j (by omega) (by omega)
end Go.Proofs.YtffcfaabjodpcaaGreatDoor
end

section
set_option maxRecDepth 100000
namespace Go.Proofs.YtffcfaabjodpcaaGreatDoor
open Go Go.Rlm
def drun : List Nat → Nat → Option Nat
  | [], v => some v
  | c :: cs, v => bif Nat.ble 48 c && Nat.ble c 57 && Nat.ble v 100000 then drun cs (v * 10 + c - 48) else none
def drunB (u : Nat) : Bool := (drun ((decD 20 u).map UInt8.toNat) 0 == some u) && !(decD 20 u).isEmpty
theorem drun_all : (List.range 513).all drunB = true := by kernel_rfl
theorem drun_of {u : Nat} (h : u ≤ 512) : drun ((decD 20 u).map UInt8.toNat) 0 = some u ∧ decD 20 u ≠ [] := by
  have := List.all_eq_true.1 drun_all u (List.mem_range.2 (by omega))
  unfold drunB at this
  simp only [Bool.and_eq_true, beq_iff_eq, Bool.not_eq_true', List.isEmpty_eq_false_iff] at this
  exact this
theorem rrun_digits {l : List Nat} {rest : List Nat} : ∀ {ds : List Nat} {v v' last : Nat}, drun ds v = some v' → rrun (ds ++ rest) (l ++ [v]) last = rrun rest (l ++ [v']) (ds.getLastD last) ∧ (∀ c ∈ ds, 48 ≤ c ∧ c ≤ 57)
  | [], v, v', last, h => by injection h with h; subst h; exact ⟨rfl, by simp⟩
  | c :: cs, v, v', last, h => by
    unfold drun at h
    cases hb : (Nat.ble 48 c && Nat.ble c 57 && Nat.ble v 100000) with
    | false => rw [hb] at h; cases h
    | true =>
      rw [hb, cond_true] at h
      simp only [Bool.and_eq_true] at hb
      have h1 := Nat.le_of_ble_eq_true hb.1.1
      have h2 := Nat.le_of_ble_eq_true hb.1.2
      have h3 := Nat.le_of_ble_eq_true hb.2
      obtain ⟨k1, k2⟩ := rrun_digits (l := l) (rest := rest) (last := c) h
      have hs : rstep (l ++ [v]) last c = some (l ++ [v * 10 + c - 48]) := by
        unfold rstep
        rw [if_pos ⟨h1, h2⟩, if_neg (by simp), if_neg (by simp; omega)]
        simp
      refine ⟨by rw [List.cons_append, rrun, hs, List.getLastD_cons]; exact k1, fun x hx => ?_⟩
      rcases List.mem_cons.1 hx with rfl | hx
      · exact ⟨h1, h2⟩
      · exact k2 x hx
/-- One letter and its number. -/
theorem rrun_field {l : List Nat} {rest : List UInt8} {u : Nat} {h : UInt8} {last : Nat} (hu : u ≤ 512) (hh : 57 < h.toNat) (hl : l.length < 6) (hlast : last = 0 ∨ 48 ≤ last ∧ last ≤ 57) :
    ∃ c, rrun ((h :: decD 20 u ++ rest).map UInt8.toNat) l last = rrun (rest.map UInt8.toNat) (l ++ [u]) c ∧ (c = 0 ∨ 48 ≤ c ∧ c ≤ 57) := by
  obtain ⟨d1, d2⟩ := drun_of hu
  obtain ⟨k1, k2⟩ := rrun_digits (l := l) (rest := rest.map UInt8.toNat) (last := h.toNat) d1
  refine ⟨((decD 20 u).map UInt8.toNat).getLastD h.toNat, ?_, .inr (k2 _ ?_)⟩
  · have hs : rstep l last h.toNat = some (l ++ [0]) := by
      unfold rstep
      rw [if_neg (by omega), if_neg (by omega), if_neg (by omega)]
    rw [List.map_append, List.map_cons, List.cons_append, rrun, hs]
    exact k1
  · rw [List.getLastD_eq_getLast?, List.getLast?_eq_some_getLast (by simpa using d2), Option.getD_some]
    exact List.getLast_mem _
theorem rrun_name {d r z m k i : Nat} (h1 : d ≤ 512) (h2 : r ≤ 512) (h3 : z ≤ 512) (h4 : m ≤ 512) (h5 : k ≤ 512) (h6 : i ≤ 512) :
    rrun ((100 :: decD 20 d ++ 114 :: decD 20 r ++ 115 :: decD 20 z ++ 109 :: decD 20 m ++ 107 :: decD 20 k ++ 118 :: decD 20 i).map UInt8.toNat) [] 0 = some [d, r, z, m, k, i] := by
  have e : 100 :: decD 20 d ++ 114 :: decD 20 r ++ 115 :: decD 20 z ++ 109 :: decD 20 m ++ 107 :: decD 20 k ++ 118 :: decD 20 i =
      100 :: decD 20 d ++ (114 :: decD 20 r ++ (115 :: decD 20 z ++ (109 :: decD 20 m ++ (107 :: decD 20 k ++ (118 :: decD 20 i ++ []))))) := by simp
  rw [e]
  obtain ⟨c1, e1, g1⟩ := rrun_field (l := []) (h := 100) (last := 0) (rest := 114 :: decD 20 r ++ (115 :: decD 20 z ++ (109 :: decD 20 m ++ (107 :: decD 20 k ++ (118 :: decD 20 i ++ []))))) h1 (by decide) (by simp) (.inl rfl)
  obtain ⟨c2, e2, g2⟩ := rrun_field (l := [d]) (h := 114) (last := c1) (rest := 115 :: decD 20 z ++ (109 :: decD 20 m ++ (107 :: decD 20 k ++ (118 :: decD 20 i ++ [])))) h2 (by decide) (by simp) g1
  obtain ⟨c3, e3, g3⟩ := rrun_field (l := [d, r]) (h := 115) (last := c2) (rest := 109 :: decD 20 m ++ (107 :: decD 20 k ++ (118 :: decD 20 i ++ []))) h3 (by decide) (by simp) g2
  obtain ⟨c4, e4, g4⟩ := rrun_field (l := [d, r, z]) (h := 109) (last := c3) (rest := 107 :: decD 20 k ++ (118 :: decD 20 i ++ [])) h4 (by decide) (by simp) g3
  obtain ⟨c5, e5, g5⟩ := rrun_field (l := [d, r, z, m]) (h := 107) (last := c4) (rest := 118 :: decD 20 i ++ []) h5 (by decide) (by simp) g4
  obtain ⟨c6, e6, g6⟩ := rrun_field (l := [d, r, z, m, k]) (h := 118) (last := c5) (rest := []) h6 (by decide) (by simp) g5
  rw [e1]
  show rrun _ [d] c1 = _
  rw [e2]
  show rrun _ [d, r] c2 = _
  rw [e3]
  show rrun _ [d, r, z] c3 = _
  rw [e4]
  show rrun _ [d, r, z, m] c4 = _
  rw [e5]
  show rrun _ [d, r, z, m, k] c5 = _
  rw [e6]
  rfl
theorem at_start : At [.cells zcell 25 false 0] ⟨none, 0, 0⟩ [] :=
  ⟨⟨[], OS.nil _ 3, by simp⟩, rfl, by simp, by simp⟩
/-- What the reference's Parse computes. -/
theorem ref_run {l0 : List UInt8} (hl : l0.length ≤ 1000) :
    Pn.f17 1100 (bs l0) = match partC 46 l0 with
      | none => failV
      | some (a, b) => match rrun (b.map UInt8.toNat) [] 0 with
        | some [d, r, z, m, k, i] => tailR (bs l0) ⟨bs a, i, k, d, r, z, m⟩
        | _ => failV := by
  rw [Pn.f17_eq]
  cases hp : partC 46 l0 with
  | none =>
    have hd := dot_loop (k := 1100) (a := l0) (rest := []) (partC_none hp) (.inl rfl) (by simp; omega) l0.length 0 1100 (by omega) (by omega)
    rw [List.append_nil] at hd
    rw [show ((0 : Nat) : Int) = 0 from rfl] at hd
    rw [hd]
    exact tail_short at_start (by omega) (by simp)
  | some p =>
    obtain ⟨a, b⟩ := p
    obtain ⟨rfl, ha⟩ := partC_some hp
    have hlen : a.length + b.length + 1 ≤ 1000 := by simp at hl; omega
    have hd := dot_loop (k := 1100) (a := a) (rest := 46 :: b) ha (.inr ⟨b, rfl⟩) (by omega) a.length 0 1100 (by omega) (by omega)
    rw [show ((0 : Nat) : Int) = 0 from rfl] at hd
    rw [hd]
    have hlp := refparse_loop (k := 1100) (n1 := (a.length : Int)) (l0 := a ++ 46 :: b) (by omega) b.length (a.length + 1) 1100 _ _ [] 0 at_start (by simp; omega) (by omega) (by omega)
    rw [show (a ++ 46 :: b).drop (a.length + 1) = b by rw [← List.drop_drop, List.drop_left' rfl]; rfl] at hlp
    show Pn.f17_l7 1100 1100 (bs (a ++ 46 :: b)) (a.length : Int) ⟨none, 0, 0⟩ ((0 : Nat) : Int) ((a.length + 1 : Nat) : Int) [.cells zcell 25 false 0] = _
    simp only
    cases hr : rrun (b.map UInt8.toNat) [] 0 with
    | none => rw [hr] at hlp; exact hlp
    | some l =>
      rw [hr] at hlp
      obtain ⟨L', s', j', last', e1, e2⟩ := hlp
      rw [e1]
      by_cases h6 : l.length = 6
      · obtain ⟨d, r, z, m, k, i, rfl⟩ : ∃ d r z m k i, l = [d, r, z, m, k, i] := by
          match l, h6 with
          | [d, r, z, m, k, i], _ => exact ⟨_, _, _, _, _, _, rfl⟩
        rw [tail_six e2 (by omega) (by simp)]
        simp
      · rw [tail_short e2 (by omega) h6]
        split
        · rename_i h; injection h with h; subst h; simp at h6
        · rfl
theorem tailR_yes {s : ByteArray} {q : Plc} (h1 : nameE q = 0) (h2 : (nameS q).toList = s.toList) : tailR s q = ok (.tuple #[.agg #[.string q.base, .int .i64 q.idx, .int .i64 q.k, .int .i64 q.d, .int .i64 q.r, .int .i64 q.z, .int .i64 q.m], .int .i64 0]) := by
  unfold tailR
  rw [h1, h2, show ((0 : Int) != 0) = false from rfl, lif_false]
  simp [lif_false]
theorem tailR_no {s : ByteArray} {q : Plc} (h : ¬ (nameE q = 0 ∧ (nameS q).toList = s.toList)) : tailR s q = failV := by
  unfold tailR
  by_cases h1 : nameE q = 0
  · rw [h1, show ((0 : Int) != 0) = false from rfl, lif_false, show ((nameS q).toList == s.toList) = false by simpa using fun e => h ⟨h1, e⟩]
    rfl
  · rw [show (nameE q != 0) = true by simpa using h1, lif_true]
theorem nameE_zero {p : Plc} (h : nameE p = 0) : placeB p = true := by
  unfold nameE at h
  cases hp : placeB p with
  | true => rfl
  | false => rw [hp] at h; cases h
theorem ba_toList {a b : ByteArray} (h : a.toList = b.toList) : a = b := by
  rw [Go.ByteArray.toList_eq, Go.ByteArray.toList_eq] at h
  rw [← bs_data a, ← bs_data b, h]
theorem refparse_ok (s : ByteArray) (h : s.size ≤ 1000) : Pn.f17 1100 s = ok (.tuple #[(parseF s).val, .int .i64 (parseE s)]) := by
  have hr := ref_run (l0 := s.data.toList) h
  rw [bs_data] at hr
  rw [hr]
  unfold parseF parseE
  cases hO : parseO s with
  | some p =>
    have hE : (parseE s != 0) = false := by unfold parseE; rw [hO]; rfl
    obtain ⟨b1, b2, b3⟩ := parse_back hE
    have hF : parseF s = p := by unfold parseF; rw [hO]; rfl
    rw [hF] at b1 b2 b3
    obtain ⟨⟨_, _, _, _, _, _, _, _, _⟩, _, _, _, _, _, _, hb⟩ := place_true b3
    have hn : (46 : UInt8) ∉ p.base.data.toList := by
      intro hm
      have := List.any_eq_false.1 hb 46 hm
      exact this (by decide)
    have e1 : nameS p = bs (nameL p) := by unfold nameS; rw [b3]; rfl
    have e0 : s = bs (nameL p) := by rw [← e1]; exact (ba_toList b2).symm
    have e2 : partC 46 (nameL p) = some (p.base.data.toList, 100 :: decD 20 p.d.toNat ++ 114 :: decD 20 p.r.toNat ++ 115 :: decD 20 p.z.toNat ++ 109 :: decD 20 p.m.toNat ++ 107 :: decD 20 p.k.toNat ++ 118 :: decD 20 p.idx.toNat) := by
      unfold nameL
      exact partC_of hn
    rw [e0, bs_toList, e2]
    simp only
    rw [rrun_name (by omega) (by omega) (by omega) (by omega) (by omega) (by omega)]
    simp only
    rw [Int.toNat_of_nonneg (by omega), Int.toNat_of_nonneg (by omega), Int.toNat_of_nonneg (by omega), Int.toNat_of_nonneg (by omega), Int.toNat_of_nonneg (by omega), Int.toNat_of_nonneg (by omega), bs_data]
    rw [tailR_yes b1 (by rw [← e0]; exact b2)]
    rfl
  | none =>
    show _ = failV
    cases hp : partC 46 s.data.toList with
    | none => rfl
    | some q =>
      obtain ⟨a, b⟩ := q
      simp only
      split
      · apply tailR_no
        rintro ⟨n1, n2⟩
        have := parse_name (nameE_zero n1)
        rw [ba_toList n2, hO] at this
        cases this
      · rfl
theorem pureRefParse : PureOk globs Tryz.prog 17 parseRP :=
  .runs (T := Pn.T) (n := 1100) specPn X.mixed X.named (by decide) fun args L r0 r hr hreal => by
    unfold parseRP at hr
    split at hr
    case h_2 => cases hr
    rename_i s
    injection hr with hr
    subst hr
    obtain ⟨h1, rfl⟩ := gate_real hreal
    exact ⟨_, rfl, rfl, rfl, refparse_ok s (Nat.le_of_ble_eq_true h1)⟩
theorem specPp : SpecOk globs Tryz.prog Pp.T := .more pureRefParse specPn
end Go.Proofs.YtffcfaabjodpcaaGreatDoor
end

section
set_option maxRecDepth 100000
namespace Go.Proofs.YtffcfaabjodpcaaGreatDoor
open Go Go.Rlm
/-- A run on no heap that ends with one block of cells without addresses, and a slice of it. -/
theorem canon_new {G : Keep} {P : Program} {T : Tab} (hS : SpecOk G P T) (hm : P.follows .mixedOrders = true) (hn : P.funcs.all (fun fn => !(fn.name == "runtime.NumGoroutine")) = true)
    {n f : Nat} {fn : Func} {c : Code} (hfn : P.funcs[f]? = some fn) (hb : fn.body = some c) (hf : f < YB) {L Y : LHeap} {k o q cap : Nat} {us : List Value} {e : TypeId} {sp : Nat}
    (hrun : lcall P T n f [] [] = some (.ret (.slice (some ⟨k, o, none⟩) q cap) Y)) (hk : Y[k]? = some (.cells us e false sp)) (hu : ∀ u ∈ us, Rlm.flat u = true) :
    AnsOk G P f [] L (.ret (.slice (some ⟨L.length, o, none⟩) q cap) (L ++ [.cells us e false sp])) := by
  refine canonB_calls hS hm hn hfn hb hf (bs := []) (ks := [k]) (C := []) (Y := Y) ⟨by simp, rfl, fun i b h => (by simp at h)⟩ .nil hrun
    ⟨by simp, by simp, fun k hk => (by simp), fun r hr _ => get_push hr, fun i b h => (by simp at h), fun j i hj => ?_⟩ (.slice (by simp [back]))
  cases j with
  | zero =>
    simp at hj; subst hj
    exact ⟨us, us, e, sp, hk, by simp, rens_flat hu⟩
  | succ j => simp at hj
def toldNew (r : R) : Bool :=
  match r with
  | some (.ret (.slice (some ⟨16, 0, none⟩) 8 c) Y) => Nat.beq c OPEN && (match (Y[16]? : Option LBlk) with | some (LBlk.cells cs 173 false 1) => fast (.agg ⟨cs⟩) (.agg ⟨ivS.map uV⟩) | _ => false)
  | _ => false
theorem toldNew_true {r : R} (h : toldNew r = true) : ∃ Y, r = some (.ret (.slice (some ⟨16, 0, none⟩) 8 OPEN) Y) ∧ Y[16]? = some (.cells (ivS.map uV) 173 false 1) := by
  unfold toldNew at h
  split at h
  · rename_i c Y
    simp only [Bool.and_eq_true] at h
    obtain ⟨h1, h2⟩ := h
    split at h2
    · rename_i cs hY
      have := fast_eq h2
      injection this with this
      injection this with this
      subst this
      exact ⟨Y, by rw [Nat.eq_of_beq_eq_true h1], hY⟩
    · cases h2
  · cases h
theorem first_told : toldNew (lcall Tryz.prog Pp.T 1000 156 [] []) = true := by kernel_rfl
theorem pureFirst : PureOk globs Tryz.prog 156 firstP := by
  refine ⟨by decide, fun args L r0 r hr hreal => ?_⟩
  unfold firstP at hr
  split at hr
  case h_2 => cases hr
  injection hr with hr
  subst hr
  injection hreal with hreal
  subst hreal
  obtain ⟨Y, h1, h2⟩ := toldNew_true first_told
  unfold firstC
  exact canon_new specPp X.mixed X.named Tryz.func156 rfl (by decide) h1 h2 uV_flat
theorem specPs : SpecOk globs Tryz.prog Ps.T := .more pureFirst specPp
end Go.Proofs.YtffcfaabjodpcaaGreatDoor
end

section
set_option maxRecDepth 100000
set_option linter.unusedVariables false
namespace Go.Proofs.YtffcfaabjodpcaaGreatDoor.Ps
open Go Go.Rlm
/-- hamper/hamperref05.places -/
noncomputable def f157 (k : Nat) (L : LHeap) : R :=
  lcall Tryz.prog T k 157 [] L
/-- hamper/hamperref05.mix -/
noncomputable def f158 (k : Nat) (l0 : Sl) (n1 : Int) (n2 : Int) (n3 : Int) (n4 : Int) (n5 : Int) (n6 : Int) (L : LHeap) : R :=
  lcall Tryz.prog T k 158
  [Value.slice l0.a l0.n l0.c, Value.int IntKind.i64 n1, Value.int IntKind.i64 n2, Value.int IntKind.i64 n3, Value.int IntKind.i64 n4, Value.int IntKind.u32 n5, Value.int IntKind.u32 n6] L
/-- hamper/hamperref05.place -/
noncomputable def f159 (k : Nat) (n0 : Int) (L : LHeap) : R :=
  lcall Tryz.prog T k 159 [Value.int IntKind.u8 n0] L
/-- hamper/hamperref05.turn -/
noncomputable def f227 (k : Nat) (n0 : Int) (n1 : Int) (L : LHeap) : R :=
  lcall Tryz.prog T k 227 [Value.int IntKind.u32 n0, Value.int IntKind.u32 n1] L
theorem f157_eq (k : Nat) (L : LHeap) : f157 (k + 1) L =
 some
 (LR.ret (Value.slice (some (Addr.mk (List.length L) 0 none)) 10 10)
 (L ++
 [LBlk.cells
 [Value.string (ByteArray.mk #[48, 49, 50, 51, 52, 53, 54, 55, 56, 57, 97, 98, 99, 100, 101, 102]),
 Value.string (ByteArray.mk #[101, 97, 52, 56, 57, 102, 100, 54, 49, 99, 48, 50, 98, 55, 53, 51]),
 Value.string (ByteArray.mk #[98, 56, 99, 48, 53, 50, 102, 100, 97, 101, 51, 54, 55, 49, 57, 52]),
 Value.string (ByteArray.mk #[55, 57, 51, 49, 100, 99, 98, 101, 50, 54, 53, 97, 52, 48, 102, 56]),
 Value.string (ByteArray.mk #[57, 48, 53, 55, 50, 52, 97, 102, 101, 49, 98, 99, 54, 56, 51, 100]),
 Value.string (ByteArray.mk #[50, 99, 54, 97, 48, 98, 56, 51, 52, 100, 55, 53, 102, 101, 49, 57]),
 Value.string (ByteArray.mk #[99, 53, 49, 102, 101, 100, 52, 97, 48, 55, 54, 51, 57, 50, 56, 98]),
 Value.string (ByteArray.mk #[100, 98, 55, 101, 99, 49, 51, 57, 53, 48, 102, 52, 56, 54, 50, 97]),
 Value.string (ByteArray.mk #[54, 102, 101, 57, 98, 51, 48, 56, 99, 50, 100, 55, 49, 52, 97, 53]),
 Value.string (ByteArray.mk #[97, 50, 56, 52, 55, 54, 49, 53, 102, 98, 57, 101, 51, 99, 100, 48])]
 9 false 0])) := by kernel_rfl
theorem f158_eq (k : Nat) (l0 : Sl) (n1 : Int) (n2 : Int) (n3 : Int) (n4 : Int) (n5 : Int) (n6 : Int) (L : LHeap) : f158 (k + 1) l0 n1 n2 n3 n4 n5 n6 L =
 obind (idx l0 n1 1) fun a7 =>
 obind (Option.bind (cell L a7) (asI IntKind.u32)) fun n8 =>
 obind (idx l0 n2 1) fun a9 =>
 obind (Option.bind (cell L a9) (asI IntKind.u32)) fun n10 =>
 obind (idx l0 n1 1) fun a11 =>
 obind (stores L a11 [Value.int IntKind.u32 (IntKind.wrap IntKind.u32 (IntKind.wrap IntKind.u32 (n8 + n10) + n5))]) fun L12 =>
 obind (idx l0 n4 1) fun a13 =>
 obind (Option.bind (cell L12 a13) (asI IntKind.u32)) fun n14 =>
 obind (idx l0 n1 1) fun a15 =>
 obind (Option.bind (cell L12 a15) (asI IntKind.u32)) fun n16 =>
 lbindR (f227 k (bitop BinOp.xor IntKind.u32 n14 n16) 16 L12) fun v17 L18 =>
 obind (asI IntKind.u32 v17) fun n19 =>
 obind (idx l0 n4 1) fun a20 =>
 obind (stores L18 a20 [Value.int IntKind.u32 n19]) fun L21 =>
 obind (idx l0 n3 1) fun a22 =>
 obind (Option.bind (cell L21 a22) (asI IntKind.u32)) fun n23 =>
 obind (idx l0 n4 1) fun a24 =>
 obind (Option.bind (cell L21 a24) (asI IntKind.u32)) fun n25 =>
 obind (idx l0 n3 1) fun a26 =>
 obind (stores L21 a26 [Value.int IntKind.u32 (IntKind.wrap IntKind.u32 (n23 + n25))]) fun L27 =>
 obind (idx l0 n2 1) fun a28 =>
 obind (Option.bind (cell L27 a28) (asI IntKind.u32)) fun n29 =>
 obind (idx l0 n3 1) fun a30 =>
 obind (Option.bind (cell L27 a30) (asI IntKind.u32)) fun n31 =>
 lbindR (f227 k (bitop BinOp.xor IntKind.u32 n29 n31) 12 L27) fun v32 L33 =>
 obind (asI IntKind.u32 v32) fun n34 =>
 obind (idx l0 n2 1) fun a35 =>
 obind (stores L33 a35 [Value.int IntKind.u32 n34]) fun L36 =>
 obind (idx l0 n1 1) fun a37 =>
 obind (Option.bind (cell L36 a37) (asI IntKind.u32)) fun n38 =>
 obind (idx l0 n2 1) fun a39 =>
 obind (Option.bind (cell L36 a39) (asI IntKind.u32)) fun n40 =>
 obind (idx l0 n1 1) fun a41 =>
 obind (stores L36 a41 [Value.int IntKind.u32 (IntKind.wrap IntKind.u32 (IntKind.wrap IntKind.u32 (n38 + n40) + n6))]) fun L42 =>
 obind (idx l0 n4 1) fun a43 =>
 obind (Option.bind (cell L42 a43) (asI IntKind.u32)) fun n44 =>
 obind (idx l0 n1 1) fun a45 =>
 obind (Option.bind (cell L42 a45) (asI IntKind.u32)) fun n46 =>
 lbindR (f227 k (bitop BinOp.xor IntKind.u32 n44 n46) 8 L42) fun v47 L48 =>
 obind (asI IntKind.u32 v47) fun n49 =>
 obind (idx l0 n4 1) fun a50 =>
 obind (stores L48 a50 [Value.int IntKind.u32 n49]) fun L51 =>
 obind (idx l0 n3 1) fun a52 =>
 obind (Option.bind (cell L51 a52) (asI IntKind.u32)) fun n53 =>
 obind (idx l0 n4 1) fun a54 =>
 obind (Option.bind (cell L51 a54) (asI IntKind.u32)) fun n55 =>
 obind (idx l0 n3 1) fun a56 =>
 obind (stores L51 a56 [Value.int IntKind.u32 (IntKind.wrap IntKind.u32 (n53 + n55))]) fun L57 =>
 obind (idx l0 n2 1) fun a58 =>
 obind (Option.bind (cell L57 a58) (asI IntKind.u32)) fun n59 =>
 obind (idx l0 n3 1) fun a60 =>
 obind (Option.bind (cell L57 a60) (asI IntKind.u32)) fun n61 =>
 lbindR (f227 k (bitop BinOp.xor IntKind.u32 n59 n61) 7 L57)
 fun v62 L63 =>
 obind (asI IntKind.u32 v62) fun n64 =>
 obind (idx l0 n2 1) fun a65 =>
 obind (stores L63 a65 [Value.int IntKind.u32 n64]) fun L66 =>
 some (LR.ret (Value.tuple #[]) L66) := by kernel_rfl
theorem f159_eq (k : Nat) (n0 : Int) (L : LHeap) : f159 (k + 1) n0 L =
 lif (decide (n0 ≥ 97)) (some (LR.ret (Value.int IntKind.i64 (IntKind.wrap IntKind.i64 (IntKind.wrap IntKind.i64 (IntKind.wrap IntKind.u8 (n0 - 97)) + 10))) L))
 (some (LR.ret (Value.int IntKind.i64 (IntKind.wrap IntKind.i64 (IntKind.wrap IntKind.u8 (n0 - 48)))) L)) := by kernel_rfl
theorem f227_eq (k : Nat) (n0 : Int) (n1 : Int) (L : LHeap) : f227 (k + 1) n0 n1 L =
 when (!decide (n1 < 0))
 (when (!decide (IntKind.wrap IntKind.u32 (32 - n1) < 0))
 (some
 (LR.ret
 (Value.int IntKind.u32 (bitop BinOp.or IntKind.u32 (Int.fdiv n0 (2 ^ min (Int.toNat n1) 32)) (IntKind.wrap IntKind.u32 (n0 * 2 ^ min (Int.toNat (IntKind.wrap IntKind.u32 (32 - n1))) 32))))
 L))) := by kernel_rfl
end Go.Proofs.YtffcfaabjodpcaaGreatDoor.Ps
end

section
set_option maxRecDepth 100000
namespace Go.Proofs.YtffcfaabjodpcaaGreatDoor
open Go Go.Rlm
theorem w32 {n : Int} (h0 : 0 ≤ n) (h1 : n < 4294967296) : IntKind.wrap .u32 n = n := by
  simp only [IntKind.wrap, IntKind.bits, IntKind.signed, Bool.false_and, Bool.false_eq_true, if_false]
  rw [show (2 : Int) ^ 32 = 4294967296 by decide]
  omega
theorem turn_ok {k x n : Nat} {L : LHeap} (hx : x < 4294967296) (h1 : 1 ≤ n) (h2 : n ≤ 31) : Ps.f227 (k + 1) (x : Int) (n : Int) L = some (.ret (.int .u32 ((rot32 x n : Nat) : Int)) L) := by
  rw [Ps.f227_eq, decide_eq_false (by omega), Bool.not_false, when_true, show (32 : Int) - (n : Int) = ((32 - n : Nat) : Int) by omega, w32 (by omega) (by omega), decide_eq_false (by omega), Bool.not_false, when_true,
    Int.toNat_natCast, Int.toNat_natCast, Nat.min_eq_left (by omega), Nat.min_eq_left (by omega)]
  have e1 : IntKind.wrap .u32 ((x : Int) * 2 ^ (32 - n)) = (((x <<< (32 - n)) % 4294967296 : Nat) : Int) := by
    simp only [IntKind.wrap, IntKind.bits, IntKind.signed, Bool.false_and, Bool.false_eq_true, if_false]
    rw [Nat.shiftLeft_eq, show (2 : Int) ^ 32 = 4294967296 by decide, Int.natCast_emod, Int.natCast_mul, Int.natCast_pow]
    rfl
  rw [e1, fdiv_pow, ← Nat.shiftRight_eq_div_pow, bitop_or (k := .u32) (by rfl) (show _ < 2 ^ 32 from Nat.lt_of_le_of_lt (Nat.shiftRight_le x n) hx) (show _ < 2 ^ 32 from Nat.mod_lt _ (by decide))]
  rfl
/-- Four numbers of a list laid in. -/
def S4 (ns : List Nat) (a b c d va vb vc vd : Nat) : List Nat := (((ns.set a va).set b vb).set c vc).set d vd
structure Four (ns : List Nat) (a b c d : Nat) : Prop where
  len : ns.length = 16
  ha : a < 16
  hb : b < 16
  hc : c < 16
  hd : d < 16
  ab : a ≠ b
  ac : a ≠ c
  ad : a ≠ d
  bc : b ≠ c
  bd : b ≠ d
  cd : c ≠ d
variable {ns : List Nat} {a b c d va vb vc vd x : Nat}
theorem S4_len : (S4 ns a b c d va vb vc vd).length = ns.length := by simp [S4]
theorem Four.init (h : Four ns a b c d) : ns = S4 ns a b c d (ns.getD a 0) (ns.getD b 0) (ns.getD c 0) (ns.getD d 0) := by
  obtain ⟨h1, h2, h3, h4, h5, _, _, _, _, _, _⟩ := h
  have g : ∀ i, i < 16 → ns.set i (ns.getD i 0) = ns := fun i hi => by
    rw [List.getD_eq_getElem?_getD, List.getElem?_eq_getElem (by omega), Option.getD_some, List.set_getElem_self]
  unfold S4
  rw [g a h2, g b h3, g c h4, g d h5]
theorem Four.getA (h : Four ns a b c d) : (S4 ns a b c d va vb vc vd).getD a 0 = va := by
  obtain ⟨h1, h2, h3, h4, h5, q1, q2, q3, q4, q5, q6⟩ := h
  simp [S4, List.getD_eq_getElem?_getD, List.getElem?_set, *, Ne.symm q1, Ne.symm q2, Ne.symm q3]
theorem Four.getB (h : Four ns a b c d) : (S4 ns a b c d va vb vc vd).getD b 0 = vb := by
  obtain ⟨h1, h2, h3, h4, h5, q1, q2, q3, q4, q5, q6⟩ := h
  simp [S4, List.getD_eq_getElem?_getD, List.getElem?_set, *, Ne.symm q4, Ne.symm q5]
theorem Four.getC (h : Four ns a b c d) : (S4 ns a b c d va vb vc vd).getD c 0 = vc := by
  obtain ⟨h1, h2, h3, h4, h5, q1, q2, q3, q4, q5, q6⟩ := h
  simp [S4, List.getD_eq_getElem?_getD, List.getElem?_set, *, Ne.symm q6]
theorem Four.getD (h : Four ns a b c d) : (S4 ns a b c d va vb vc vd).getD d 0 = vd := by
  obtain ⟨h1, h2, h3, h4, h5, q1, q2, q3, q4, q5, q6⟩ := h
  simp [S4, List.getD_eq_getElem?_getD, List.getElem?_set, *]
theorem Four.setA (h : Four ns a b c d) : (S4 ns a b c d va vb vc vd).set a x = S4 ns a b c d x vb vc vd := by
  unfold S4
  rw [List.set_comm _ _ h.ad.symm, List.set_comm _ _ h.ac.symm, List.set_comm _ _ h.ab.symm, List.set_set]
theorem Four.setB (h : Four ns a b c d) : (S4 ns a b c d va vb vc vd).set b x = S4 ns a b c d va x vc vd := by
  unfold S4
  rw [List.set_comm _ _ h.bd.symm, List.set_comm _ _ h.bc.symm, List.set_set]
theorem Four.setC (h : Four ns a b c d) : (S4 ns a b c d va vb vc vd).set c x = S4 ns a b c d va vb x vd := by
  unfold S4
  rw [List.set_comm _ _ h.cd.symm, List.set_set]
theorem Four.setD (h : Four ns a b c d) : (S4 ns a b c d va vb vc vd).set d x = S4 ns a b c d va vb vc x := by
  unfold S4
  rw [List.set_set]
/-- A block of numbers in a heap. -/
def H32 (L : LHeap) (q : Nat) (ms : List Nat) : LHeap := L.set q (.cells (ms.map uV) 173 false 1)
theorem H32_get {L : LHeap} {q : Nat} {ms : List Nat} (hq : q < L.length) : (H32 L q ms)[q]? = some (.cells (ms.map uV) 173 false 1) := by
  unfold H32; rw [List.getElem?_set_self hq]
theorem H32_rd {L : LHeap} {q i : Nat} {ms : List Nat} (hq : q < L.length) (hi : i < ms.length) : (cell (H32 L q ms) ⟨q, 0 + i * 1, none⟩).bind (asI .u32) = some ((ms.getD i 0 : Nat) : Int) := by
  rw [cell_of (H32_get hq), Nat.zero_add, Nat.mul_one, u32_get hi]
theorem H32_st {L : LHeap} {q i v : Nat} {ms : List Nat} (hq : q < L.length) (hi : i < ms.length) : stores (H32 L q ms) ⟨q, 0 + i * 1, none⟩ [.int .u32 (v : Int)] = some (H32 L q (ms.set i v)) := by
  rw [stores_of (H32_get hq) (by simp; omega), Nat.zero_add, Nat.mul_one]
  unfold H32
  rw [List.set_set, List.map_set]
  rfl
theorem mixr_ok {k q : Nat} {L : LHeap} {y : Nat} (hq : q < L.length) (h : Four ns a b c d) (hs : ∀ n ∈ ns, n < 4294967296) (hx : x < 4294967296) (hy : y < 4294967296) :
    Ps.f158 (k + 1 + 1) ⟨some ⟨q, 0, none⟩, 16, OPEN⟩ a b c d x y (H32 L q ns) = some (.ret (.tuple #[]) (H32 L q (mixS ns a b c d x y))) := by
  have gl : ∀ i, i < 16 → ns.getD i 0 < 4294967296 := fun i hi => by
    have := h.len
    rw [List.getD_eq_getElem?_getD, List.getElem?_eq_getElem (by omega)]
    exact hs _ (List.getElem_mem _)
  have ix : ∀ i : Nat, i < 16 → idx ⟨some ⟨q, 0, none⟩, 16, OPEN⟩ (i : Int) 1 = some ⟨q, 0 + i * 1, none⟩ := fun i hi => idx_of hi
  have ga := gl a h.ha
  have gb := gl b h.hb
  have gc := gl c h.hc
  have gd := gl d h.hd
  have rd : ∀ (i va vb vc vd : Nat), i < 16 → (cell (H32 L q (S4 ns a b c d va vb vc vd)) ⟨q, 0 + i * 1, none⟩).bind (asI .u32) = some (((S4 ns a b c d va vb vc vd).getD i 0 : Nat) : Int) := fun i va vb vc vd hi => H32_rd hq (by rw [S4_len, h.len]; exact hi)
  have st : ∀ (i va vb vc vd v : Nat), i < 16 → stores (H32 L q (S4 ns a b c d va vb vc vd)) ⟨q, 0 + i * 1, none⟩ [.int .u32 (v : Int)] = some (H32 L q ((S4 ns a b c d va vb vc vd).set i v)) := fun i va vb vc vd v hi => H32_st hq (by rw [S4_len, h.len]; exact hi)
  have e0 : H32 L q ns = H32 L q (S4 ns a b c d (ns.getD a 0) (ns.getD b 0) (ns.getD c 0) (ns.getD d 0)) := by rw [← h.init]
  rw [e0, Ps.f158_eq]
  unfold mixS
  generalize ns.getD a 0 = va at *
  generalize ns.getD b 0 = vb at *
  generalize ns.getD c 0 = vc at *
  generalize ns.getD d 0 = vd at *
  rw [ix a h.ha, obind_some, rd a _ _ _ _ h.ha, h.getA, obind_some, ix b h.hb, obind_some, rd b _ _ _ _ h.hb, h.getB, obind_some, obind_some, wrap_add, wrap_add, st a _ _ _ _ _ h.ha, h.setA, obind_some]
  have l1 := add32_lt (add32 va vb) x
  generalize hv1 : add32 (add32 va vb) x = v1 at *
  rw [ix d h.hd, obind_some, rd d _ _ _ _ h.hd, h.getD, obind_some, obind_some, rd a _ _ _ _ h.ha, h.getA, obind_some, bitop_xor gd l1]
  rw [show (16 : Int) = ((16 : Nat) : Int) from rfl, turn_ok (xor_lt gd l1) (by omega) (by omega)]
  have l2 := rot32_lt (n := 16) (xor_lt gd l1)
  generalize hv2 : rot32 (vd ^^^ v1) 16 = v2 at *
  rw [lbindR_ret, asI_int, obind_some, obind_some, st d _ _ _ _ _ h.hd, h.setD, obind_some, ix c h.hc, obind_some, rd c _ _ _ _ h.hc, h.getC, obind_some, obind_some, rd d _ _ _ _ h.hd, h.getD, obind_some, obind_some, wrap_add, st c _ _ _ _ _ h.hc, h.setC, obind_some]
  have l3 := add32_lt vc v2
  generalize hv3 : add32 vc v2 = v3 at *
  rw [obind_some, rd b _ _ _ _ h.hb, h.getB, obind_some, obind_some, rd c _ _ _ _ h.hc, h.getC, obind_some, bitop_xor gb l3]
  rw [show (12 : Int) = ((12 : Nat) : Int) from rfl, turn_ok (xor_lt gb l3) (by omega) (by omega)]
  have l4 := rot32_lt (n := 12) (xor_lt gb l3)
  generalize hv4 : rot32 (vb ^^^ v3) 12 = v4 at *
  rw [lbindR_ret, asI_int, obind_some, obind_some, st b _ _ _ _ _ h.hb, h.setB, obind_some, obind_some, rd a _ _ _ _ h.ha, h.getA, obind_some, obind_some, rd b _ _ _ _ h.hb, h.getB, obind_some, obind_some, wrap_add, wrap_add, st a _ _ _ _ _ h.ha, h.setA, obind_some]
  have l5 := add32_lt (add32 v1 v4) y
  generalize hv5 : add32 (add32 v1 v4) y = v5 at *
  rw [obind_some, rd d _ _ _ _ h.hd, h.getD, obind_some, obind_some, rd a _ _ _ _ h.ha, h.getA, obind_some, bitop_xor l2 l5]
  rw [show (8 : Int) = ((8 : Nat) : Int) from rfl, turn_ok (xor_lt l2 l5) (by omega) (by omega)]
  have l6 := rot32_lt (n := 8) (xor_lt l2 l5)
  generalize hv6 : rot32 (v2 ^^^ v5) 8 = v6 at *
  rw [lbindR_ret, asI_int, obind_some, obind_some, st d _ _ _ _ _ h.hd, h.setD, obind_some, obind_some, rd c _ _ _ _ h.hc, h.getC, obind_some, obind_some, rd d _ _ _ _ h.hd, h.getD, obind_some, obind_some, wrap_add, st c _ _ _ _ _ h.hc, h.setC, obind_some]
  have l7 := add32_lt v3 v6
  generalize hv7 : add32 v3 v6 = v7 at *
  rw [obind_some, rd b _ _ _ _ h.hb, h.getB, obind_some, obind_some, rd c _ _ _ _ h.hc, h.getC, obind_some, bitop_xor l4 l7]
  rw [show (7 : Int) = ((7 : Nat) : Int) from rfl, turn_ok (xor_lt l4 l7) (by omega) (by omega)]
  rw [lbindR_ret, asI_int, obind_some, obind_some, st b _ _ _ _ _ h.hb, h.setB, obind_some]
  subst hv7; subst hv6; subst hv5; subst hv4; subst hv3; subst hv2; subst hv1
  rfl
end Go.Proofs.YtffcfaabjodpcaaGreatDoor
end

section
set_option maxRecDepth 100000
namespace Go.Proofs.YtffcfaabjodpcaaGreatDoor
open Go Go.Rlm
theorem pureRows : PureOk globs Tryz.prog 157 rowsP := by
  refine ⟨by decide, fun args L r0 r hr hreal => ?_⟩
  unfold rowsP at hr
  split at hr
  case h_2 => cases hr
  injection hr with hr
  subst hr
  injection hreal with hreal
  subst hreal
  have h := Ps.f157_eq 0 []
  unfold rowsC
  exact canon_new specPs X.mixed X.named Tryz.func157 rfl (by decide) h rfl (by
    intro u hu
    simp only [List.mem_cons, List.not_mem_nil, or_false] at hu
    rcases hu with rfl | rfl | rfl | rfl | rfl | rfl | rfl | rfl | rfl | rfl <;> rfl)
theorem hex_ok {k : Nat} {n : Int} {L : LHeap} (h : hexB n = true) : Ps.f159 (k + 1) n L = some (.ret (.int .i64 (hexN n)) L) := by
  unfold hexB at h
  simp only [Bool.or_eq_true, Bool.and_eq_true, decide_eq_true_eq] at h
  rw [Ps.f159_eq]
  unfold hexN
  by_cases h1 : n ≥ 97
  · rw [decide_eq_true h1, lif_true, cond_true, wU8 (by omega) (by omega), wI64 (n := n - 97) (by omega) (by omega), wI64 (by omega) (by omega), show n - 97 + 10 = n - 87 by omega]
  · rw [decide_eq_false h1, lif_false, cond_false, wU8 (by omega) (by omega), wI64 (by omega) (by omega)]
theorem pureHex : PureOk globs Tryz.prog 159 hexP := by
  refine ⟨by decide, fun args L r0 r hr hreal => ?_⟩
  unfold hexP at hr
  split at hr
  case h_2 => cases hr
  rename_i n
  injection hr with hr
  subst hr
  obtain ⟨g, rfl⟩ := gate_real hreal
  exact canon_pure specPs X.mixed X.named Tryz.func159 rfl (by decide) rfl (n := 1) (hex_ok (L := []) g) rfl
theorem pureMixR : PureOk globs Tryz.prog 158 mixRP := by
  refine ⟨by decide, fun args L r0 r hr hreal => ?_⟩
  unfold mixRP at hr
  split at hr
  case h_2 => cases hr
  rename_i a n c i j k l x y
  injection hr with hr
  subst hr
  obtain ⟨g, rfl⟩ := gate_real hreal
  unfold mixB at g
  unfold mixH
  generalize hr : mixR ⟨a, n, c⟩ i j k l x y L = R0 at g ⊢
  unfold mixR at hr
  split at hr
  case h_2 => subst hr; cases g
  rename_i b n' c' he
  injection he with he1 he2 he3
  subst he1; subst he2; subst he3
  split at hr
  case h_2 => subst hr; cases g
  rename_i vs e sp hL
  split at hr
  case h_2 => subst hr; cases g
  rename_i ns hns
  subst hr
  simp only at g ⊢
  simp only [Bool.and_eq_true, decide_eq_true_eq] at g
  obtain ⟨⟨⟨⟨⟨⟨⟨gn, gc⟩, ge⟩, gs⟩, g1⟩, ⟨⟨⟨i0, i1⟩, j0, j1⟩, k0, k1⟩, l0, l1⟩, ⟨⟨⟨⟨⟨q1, q2⟩, q3⟩, q4⟩, q5⟩, q6⟩⟩, ⟨x0, x1⟩, y0, y1⟩ := g
  have g1 := Nat.eq_of_beq_eq_true g1
  obtain rfl := Nat.eq_of_beq_eq_true gn
  obtain rfl := Nat.eq_of_beq_eq_true gc
  obtain rfl := Nat.eq_of_beq_eq_true ge
  obtain rfl := Nat.eq_of_beq_eq_true gs
  obtain ⟨rfl, hs⟩ := natsOf_some hns
  obtain ⟨i, rfl⟩ : ∃ n : Nat, i = n := ⟨i.toNat, by omega⟩
  obtain ⟨j, rfl⟩ : ∃ n : Nat, j = n := ⟨j.toNat, by omega⟩
  obtain ⟨k, rfl⟩ : ∃ n : Nat, k = n := ⟨k.toNat, by omega⟩
  obtain ⟨l, rfl⟩ : ∃ n : Nat, l = n := ⟨l.toNat, by omega⟩
  obtain ⟨x, rfl⟩ : ∃ n : Nat, x = n := ⟨x.toNat, by omega⟩
  obtain ⟨y, rfl⟩ : ∃ n : Nat, y = n := ⟨y.toNat, by omega⟩
  simp only [Int.toNat_natCast]
  have hrun := mixr_ok (k := 0) (q := 0) (L := [LBlk.dead]) (by simp) (ns := ns) (a := i) (b := j) (c := k) (d := l) (x := x) (y := y) ⟨g1, by omega, by omega, by omega, by omega, by omega, by omega, by omega, by omega, by omega, by omega⟩ hs (by omega) (by omega)
  exact canon_one specPs X.mixed X.named Tryz.func158 rfl (by decide) (n := 2) (X := []) hL uV_flat uV_flat (cargs := [.slice (some ⟨0, 0, none⟩) 16 OPEN, .int .i64 i, .int .i64 j, .int .i64 k, .int .i64 l, .int .u32 x, .int .u32 y])
    (.cons (.slice (by simp)) (.cons (.flat rfl) (.cons (.flat rfl) (.cons (.flat rfl) (.cons (.flat rfl) (.cons (.flat rfl) (.cons (.flat rfl) .nil))))))) hrun (.inr rfl)
theorem specPt : SpecOk globs Tryz.prog Pt.T := .more pureRows <| .more pureMixR <| .more pureHex specPs
end Go.Proofs.YtffcfaabjodpcaaGreatDoor
end

section
set_option maxRecDepth 100000
namespace Go.Proofs.YtffcfaabjodpcaaGreatDoor
open Go Go.Rlm
def dig (n : Nat) : Nat := if n < 10 then 48 + n else 87 + n
theorem dig_ok {n : Nat} (h : n < 16) : hexB (dig n : Int) = true ∧ hexN (dig n : Int) = (n : Int) := by
  unfold hexB hexN dig
  split
  · simp only [Bool.or_eq_true, Bool.and_eq_true, decide_eq_true_eq]
    refine ⟨.inl ⟨by omega, by omega⟩, ?_⟩
    rw [decide_eq_false (by omega), cond_false]; omega
  · simp only [Bool.or_eq_true, Bool.and_eq_true, decide_eq_true_eq]
    refine ⟨.inr ⟨by omega, by omega⟩, ?_⟩
    rw [decide_eq_true (by omega), cond_true]; omega
theorem mixR_of {q : Nat} {L : LHeap} {v : List Nat} {a b c d x y : Nat} (hq : q < L.length) (h : Four v a b c d) (hs : ∀ n ∈ v, n < 4294967296) (hx : x < 4294967296) (hy : y < 4294967296) :
    mixB ⟨some ⟨q, 0, none⟩, 16, OPEN⟩ a b c d x y (H32 L q v) = true ∧ mixH ⟨some ⟨q, 0, none⟩, 16, OPEN⟩ a b c d x y (H32 L q v) = H32 L q (mixS v a b c d x y) := by
  obtain ⟨h1, h2, h3, h4, h5, q1, q2, q3, q4, q5, q6⟩ := h
  unfold mixB mixH mixR
  simp only [H32_get hq, natsOf_map hs, Nat.beq_refl, h1, Int.toNat_natCast]
  rw [decide_eq_true (show (0 : Int) ≤ a by omega), decide_eq_true (show (a : Int) < 16 by omega), decide_eq_true (show (0 : Int) ≤ b by omega), decide_eq_true (show (b : Int) < 16 by omega), decide_eq_true (show (0 : Int) ≤ c by omega),
    decide_eq_true (show (c : Int) < 16 by omega), decide_eq_true (show (0 : Int) ≤ d by omega), decide_eq_true (show (d : Int) < 16 by omega), decide_eq_true (show (0 : Int) ≤ x by omega), decide_eq_true (show (x : Int) < 4294967296 by omega),
    decide_eq_true (show (0 : Int) ≤ y by omega), decide_eq_true (show (y : Int) < 4294967296 by omega), decide_eq_true (show (a : Int) ≠ b by omega), decide_eq_true (show (a : Int) ≠ c by omega), decide_eq_true (show (a : Int) ≠ d by omega),
    decide_eq_true (show (b : Int) ≠ c by omega), decide_eq_true (show (b : Int) ≠ d by omega), decide_eq_true (show (c : Int) ≠ d by omega)]
  refine ⟨rfl, ?_⟩
  unfold H32
  rw [List.set_set]
end Go.Proofs.YtffcfaabjodpcaaGreatDoor
end

section
set_option maxRecDepth 100000
namespace Go.Proofs.YtffcfaabjodpcaaGreatDoor
open Go Go.Rlm
def rowStr (r : Nat) : ByteArray := bs ((sigmaS.getD r []).map fun n => UInt8.ofNat (dig n))
theorem rowsC_eq : rowsC = .cells ((List.range 10).map fun r => .string (rowStr r)) 9 false 0 := by
  unfold rowsC
  kernel_rfl
def rowB (r i : Nat) : Bool := (byteAt (rowStr r) (i : Int) == some (dig ((sigmaS.getD r []).getD i 0) : Int)) && Nat.blt ((sigmaS.getD r []).getD i 0) 16
theorem row_all : ((List.range 10).all fun r => (List.range 16).all fun i => rowB r i) = true := by kernel_rfl
theorem row_at {r i : Nat} (hr : r < 10) (hi : i < 16) : byteAt (rowStr r) (i : Int) = some (dig ((sigmaS.getD r []).getD i 0) : Int) ∧ (sigmaS.getD r []).getD i 0 < 16 := by
  have h1 := List.all_eq_true.1 row_all r (List.mem_range.2 hr)
  have h2 := List.all_eq_true.1 h1 i (List.mem_range.2 hi)
  unfold rowB at h2
  simp only [Bool.and_eq_true, beq_iff_eq] at h2
  exact ⟨h2.1, by simpa using h2.2⟩
theorem rows_cell {L : LHeap} {p r : Nat} (h : L[p]? = some rowsC) (hr : r < 10) : Option.bind (cell L ⟨p, 0 + r * 1, none⟩) asS = some (rowStr r) := by
  rw [rowsC_eq] at h
  rw [cell_of h, Nat.zero_add, Nat.mul_one, List.getElem?_map, List.getElem?_range hr]
  rfl
theorem mixS_four {v : List Nat} (hv : ∀ n ∈ v, n < 4294967296) (hl : v.length = 16) {a b c d x y : Nat} : (mixS v a b c d x y).length = 16 ∧ ∀ n ∈ mixS v a b c d x y, n < 4294967296 := by
  obtain ⟨h1, h2⟩ := mixS_ok hv (a := a) (b := b) (c := c) (d := d) (x := x) (y := y)
  exact ⟨by rw [h1, hl], h2⟩
end Go.Proofs.YtffcfaabjodpcaaGreatDoor
end

section
set_option maxRecDepth 100000
set_option linter.unusedVariables false
namespace Go.Proofs.YtffcfaabjodpcaaGreatDoor.Pt
open Go Go.Rlm
/-- hamper/hamperref05.Sum -/
noncomputable def f49 (k : Nat) (s0 : ByteArray) (L : LHeap) : R :=
  lcall Tryz.prog T k 49 [Value.string s0] L
/-- hamper/hamperref05.Keyed -/
noncomputable def f96 (k : Nat) (s0 : ByteArray) (s1 : ByteArray) (L : LHeap) : R :=
  lcall Tryz.prog T k 96 [Value.string s0, Value.string s1] L
theorem f49_eq (k : Nat) (s0 : ByteArray) (L : LHeap) : f49 (k + 1) s0 L =
 lbind (f96 k (ByteArray.mk #[]) s0 L) fun v1 L2 =>
 obind (tupL v1) fun x3 => uncons x3 fun v4 vs5 => obind (asS v4) fun s6 => uncons vs5 fun v7 vs8 => obind (asI IntKind.i64 v7) fun n9 => nilL vs8 (some (LR.ret (Value.string s6) L2)) := by kernel_rfl
/-- slots 0, 1, 6, 7, 8 -/
noncomputable def f96_l7 (k : Nat) (j7 : Nat) (s14 : ByteArray) (s15 : ByteArray) (l16 : Sl) (l17 : Sl) (l18 : Sl) (L : LHeap) : R :=
  loopAt Tryz.prog T 96 k [1, 1, 1, 1, 1, 1, 0, 0] [] j7
  [(0, Value.string s14), (1, Value.string s15), (6, Value.slice l16.a l16.n l16.c), (7, Value.slice l17.a l17.n l17.c), (8, Value.slice l18.a l18.n l18.c)] L
/-- slots 6, 7, 8, 9 -/
noncomputable def f96_l11 (k : Nat) (j11 : Nat) (l19 : Sl) (l20 : Sl) (l21 : Sl) (n22 : Int) (L : LHeap) : R :=
  loopAt Tryz.prog T 96 k [1, 1, 1, 1, 1, 1, 1, 1, 1, 0, 0] [] j11
  [(6, Value.slice l19.a l19.n l19.c), (7, Value.slice l20.a l20.n l20.c), (8, Value.slice l21.a l21.n l21.c), (9, Value.int IntKind.i64 n22)] L
/-- slots 6, 7, 8, 9, 10 -/
noncomputable def f96_l14 (k : Nat) (j14 : Nat) (l23 : Sl) (l24 : Sl) (l25 : Sl) (n26 : Int) (n27 : Int) (L : LHeap) : R :=
  loopAt Tryz.prog T 96 k [1, 1, 1, 1, 1, 1, 1, 1, 1, 1, 0, 1, 0] [] j14
  [(6, Value.slice l23.a l23.n l23.c), (7, Value.slice l24.a l24.n l24.c), (8, Value.slice l25.a l25.n l25.c), (9, Value.int IntKind.i64 n26), (10, Value.int IntKind.i64 n27)] L
/-- slots 6, 7, 8, 9, 10, 11, 12, 13, 14 -/
noncomputable def f96_l20 (k : Nat) (j14_28 : Nat) (j20 : Nat) (l29 : Sl) (l30 : Sl) (l31 : Sl) (n32 : Int) (n33 : Int) (b34 : Bool) (n35 : Int) (l36 : Sl) (n37 : Int) (L : LHeap) : R :=
  loopAt Tryz.prog T 96 k [1, 1, 1, 1, 1, 1, 1, 1, 1, 1, 0, 1, 0, 0, 1, 0, 0, 1, 1, 1, 0, 1, 0] [j14_28] j20
  [(6, Value.slice l29.a l29.n l29.c), (7, Value.slice l30.a l30.n l30.c), (8, Value.slice l31.a l31.n l31.c), (9, Value.int IntKind.i64 n32), (10, Value.int IntKind.i64 n33), (11, Value.bool b34),
    (12, Value.int IntKind.u64 n35), (13, Value.slice l36.a l36.n l36.c), (14, Value.int IntKind.i64 n37)]
  L
/-- slots 6, 7, 8, 9, 10, 13, 15, 16, 17 -/
noncomputable def f96_l30 (k : Nat) (j14_38 : Nat) (j30 : Nat) (l39 : Sl) (l40 : Sl) (l41 : Sl) (n42 : Int) (n43 : Int) (l44 : Sl) (l45 : Sl) (l46 : Sl) (n47 : Int) (L : LHeap) : R :=
  loopAt Tryz.prog T 96 k [1, 1, 1, 1, 1, 1, 1, 1, 1, 1, 0, 1, 0, 0, 1, 0, 0, 1, 1, 1, 1, 1, 1, 1, 1, 1, 0, 1, 0] [j14_38] j30
  [(6, Value.slice l39.a l39.n l39.c), (7, Value.slice l40.a l40.n l40.c), (8, Value.slice l41.a l41.n l41.c), (9, Value.int IntKind.i64 n42), (10, Value.int IntKind.i64 n43),
    (13, Value.slice l44.a l44.n l44.c), (15, Value.slice l45.a l45.n l45.c), (16, Value.slice l46.a l46.n l46.c), (17, Value.int IntKind.i64 n47)]
  L
/-- slots 6, 7, 8, 9, 10, 15, 19 -/
noncomputable def f96_l42 (k : Nat) (j14_48 : Nat) (j42 : Nat) (l49 : Sl) (l50 : Sl) (l51 : Sl) (n52 : Int) (n53 : Int) (l54 : Sl) (n55 : Int) (L : LHeap) : R :=
  loopAt Tryz.prog T 96 k [1, 1, 1, 1, 1, 1, 1, 1, 1, 1, 0, 1, 0, 0, 1, 0, 0, 1, 1, 1, 1, 1, 1, 1, 1, 1, 1, 1, 0] [j14_48] j42
  [(6, Value.slice l49.a l49.n l49.c), (7, Value.slice l50.a l50.n l50.c), (8, Value.slice l51.a l51.n l51.c), (9, Value.int IntKind.i64 n52), (10, Value.int IntKind.i64 n53),
    (15, Value.slice l54.a l54.n l54.c), (19, Value.int IntKind.i64 n55)]
  L
/-- slots 7, 20, 21 -/
noncomputable def f96_l47 (k : Nat) (j47 : Nat) (l56 : Sl) (l57 : Sl) (n58 : Int) (L : LHeap) : R :=
  loopAt Tryz.prog T 96 k [1, 1, 1, 1, 1, 1, 1, 1, 1, 1, 1, 1, 0, 1, 0] [] j47
  [(7, Value.slice l56.a l56.n l56.c), (20, Value.slice l57.a l57.n l57.c), (21, Value.int IntKind.i64 n58)] L
theorem f96_eq (k : Nat) (s0 : ByteArray) (s1 : ByteArray) (L : LHeap) : f96 (k + 1) s0 s1 L =
 lif (decide ((↑(ByteArray.size s0) : Int) > 32)) (some (LR.ret (Value.tuple #[Value.string (ByteArray.mk #[]), Value.int IntKind.i64 1]) L))
 (obind (srcOf (L ++ [Proofs.YtffcfaabjodpcaaGreatDoor.firstC] ++ [LBlk.cells [] 173 false 0]) Tryz.prog.types[173].size 8 (Value.slice (some (Addr.mk (List.length L) 0 none)) 8 OPEN))
 fun x2 =>
 obind
 (Option.bind
 (cell
 (Sl.mk (some (Addr.mk (List.length (L ++ [Proofs.YtffcfaabjodpcaaGreatDoor.firstC] ++ [LBlk.cells [] 173 false 0])) 0 none)) 8 OPEN,
 L ++ [Proofs.YtffcfaabjodpcaaGreatDoor.firstC] ++ [LBlk.cells [] 173 false 0] ++ [LBlk.cells ([] ++ x2) 173 false Tryz.prog.types[173].size]).snd
 (Addr.add (Addr.mk (List.length (L ++ [Proofs.YtffcfaabjodpcaaGreatDoor.firstC] ++ [LBlk.cells [] 173 false 0])) 0 none) 0))
 (asI IntKind.u32))
 fun n3 =>
 obind
 (stores
 (Sl.mk (some (Addr.mk (List.length (L ++ [Proofs.YtffcfaabjodpcaaGreatDoor.firstC] ++ [LBlk.cells [] 173 false 0])) 0 none)) 8 OPEN,
 L ++ [Proofs.YtffcfaabjodpcaaGreatDoor.firstC] ++ [LBlk.cells [] 173 false 0] ++ [LBlk.cells ([] ++ x2) 173 false Tryz.prog.types[173].size]).snd
 (Addr.add (Addr.mk (List.length (L ++ [Proofs.YtffcfaabjodpcaaGreatDoor.firstC] ++ [LBlk.cells [] 173 false 0])) 0 none) 0)
 [Value.int IntKind.u32 (bitop BinOp.xor IntKind.u32 (bitop BinOp.xor IntKind.u32 n3 16842784) (IntKind.wrap IntKind.u32 (IntKind.wrap IntKind.i64 (256 * (↑(ByteArray.size s0) : Int)))))])
 fun L4 =>
 f96_l7 k k s0 s1 (Sl.mk (some (Addr.mk (List.length L) 0 none)) 8 OPEN)
 (Sl.mk (some (Addr.mk (List.length (L ++ [Proofs.YtffcfaabjodpcaaGreatDoor.firstC] ++ [LBlk.cells [] 173 false 0])) 0 none)) 8 OPEN,
 L ++ [Proofs.YtffcfaabjodpcaaGreatDoor.firstC] ++ [LBlk.cells [] 173 false 0] ++ [LBlk.cells ([] ++ x2) 173 false Tryz.prog.types[173].size]).fst
 (Sl.mk (some (Addr.mk (List.length L4) 0 none)) (ByteArray.size s0) OPEN) (L4 ++ [LBlk.cells (byteCells s0) 5 false 1])) := by kernel_rfl
theorem f96_l7_eq (k : Nat) (j7 : Nat) (s0 : ByteArray) (s1 : ByteArray) (l2 : Sl) (l3 : Sl) (l4 : Sl) (L : LHeap) : f96_l7 k (j7 + 1) s0 s1 l2 l3 l4 L =
 lif (decide ((↑(ByteArray.size s0) : Int) > 0))
 (lif (decide ((↑l4.n : Int) < 64))
 (obind (srcOf (L ++ [LBlk.cells [Value.int IntKind.u8 0] 5 false 0]) Tryz.prog.types[5].size 1 (Value.slice (some (Addr.mk (List.length L) 0 none)) 1 1)) fun x5 =>
 obind (app (L ++ [LBlk.cells [Value.int IntKind.u8 0] 5 false 0]) 5 Tryz.prog.types[5].size Tryz.prog.types[5].bytes l4 1 x5) fun x6 =>
 f96_l7 k j7 s0 s1 l2 l3 x6.fst x6.snd)
 (obind (app L 5 Tryz.prog.types[5].size Tryz.prog.types[5].bytes l4 (ByteArray.size s1) (byteCells (ByteArray.extract s1 0 (ByteArray.size s1)))) fun x7 =>
 f96_l11 k k l2 l3 x7.fst (↑x7.fst.n : Int) x7.snd))
 (obind (app L 5 Tryz.prog.types[5].size Tryz.prog.types[5].bytes l4 (ByteArray.size s1) (byteCells (ByteArray.extract s1 0 (ByteArray.size s1)))) fun x8 =>
 f96_l11 k k l2 l3 x8.fst (↑x8.fst.n : Int) x8.snd) := by kernel_rfl
theorem f96_l11_eq (k : Nat) (j11 : Nat) (l0 : Sl) (l1 : Sl) (l2 : Sl) (n3 : Int) (L : LHeap) : f96_l11 k (j11 + 1) l0 l1 l2 n3 L =
 lif ((↑l2.n : Int) == 0)
 (obind (srcOf (L ++ [LBlk.cells [Value.int IntKind.u8 0] 5 false 0]) Tryz.prog.types[5].size 1 (Value.slice (some (Addr.mk (List.length L) 0 none)) 1 1)) fun x4 =>
 obind (app (L ++ [LBlk.cells [Value.int IntKind.u8 0] 5 false 0]) 5 Tryz.prog.types[5].size Tryz.prog.types[5].bytes l2 1 x4) fun x5 =>
 f96_l11 k j11 l0 l1 x5.fst n3 x5.snd)
 (lif (Int.tmod (↑l2.n : Int) 64 != 0)
 (obind (srcOf (L ++ [LBlk.cells [Value.int IntKind.u8 0] 5 false 0]) Tryz.prog.types[5].size 1 (Value.slice (some (Addr.mk (List.length L) 0 none)) 1 1)) fun x6 =>
 obind (app (L ++ [LBlk.cells [Value.int IntKind.u8 0] 5 false 0]) 5 Tryz.prog.types[5].size Tryz.prog.types[5].bytes l2 1 x6) fun x7 =>
 f96_l11 k j11 l0 l1 x7.fst n3 x7.snd)
 (f96_l14 k k l0 l1 l2 n3 0 L)) := by kernel_rfl
theorem f96_l14_eq (k : Nat) (j14 : Nat) (l0 : Sl) (l1 : Sl) (l2 : Sl) (n3 : Int) (n4 : Int) (L : LHeap) : f96_l14 k (j14 + 1) l0 l1 l2 n3 n4 L =
 lif (decide (n4 < (↑l2.n : Int)))
 (f96_l20 k j14 k l0 l1 l2 n3 n4 (decide (IntKind.wrap IntKind.i64 (n4 + 64) ≥ (↑l2.n : Int)))
 (IntKind.wrap IntKind.u64
 (if false = true then if n3 > IntKind.wrap IntKind.i64 (n4 + 64) then n3 else IntKind.wrap IntKind.i64 (n4 + 64)
 else if n3 < IntKind.wrap IntKind.i64 (n4 + 64) then n3 else IntKind.wrap IntKind.i64 (n4 + 64)))
 (Sl.mk none 0 0) n4 L)
 (f96_l47 k k l1 (Sl.mk none 0 0) 0 L) := by kernel_rfl
theorem f96_l20_eq (k : Nat) (j14_0 : Nat) (j20 : Nat) (l1 : Sl) (l2 : Sl) (l3 : Sl) (n4 : Int) (n5 : Int) (b6 : Bool) (n7 : Int) (l8 : Sl) (n9 : Int) (L : LHeap) : f96_l20 k j14_0 (j20 + 1) l1 l2 l3 n4 n5 b6 n7 l8 n9 L =
 lif (decide (n9 < IntKind.wrap IntKind.i64 (n5 + 64)))
 (obind (idx l3 n9 1) fun a10 =>
 obind (Option.bind (cell L a10) (asI IntKind.u8)) fun n11 =>
 obind (idx l3 (IntKind.wrap IntKind.i64 (n9 + 1)) 1) fun a12 =>
 obind (Option.bind (cell L a12) (asI IntKind.u8)) fun n13 =>
 obind (idx l3 (IntKind.wrap IntKind.i64 (n9 + 2)) 1) fun a14 =>
 obind (Option.bind (cell L a14) (asI IntKind.u8)) fun n15 =>
 obind (idx l3 (IntKind.wrap IntKind.i64 (n9 + 3)) 1) fun a16 =>
 obind (Option.bind (cell L a16) (asI IntKind.u8)) fun n17 =>
 obind
 (srcOf
 (L ++
 [LBlk.cells
 [Value.int IntKind.u32
 (IntKind.wrap IntKind.u32
 (IntKind.wrap IntKind.u32
 (IntKind.wrap IntKind.u32 (IntKind.wrap IntKind.u32 n11 + IntKind.wrap IntKind.u32 (IntKind.wrap IntKind.u32 n13 * 256)) +
 IntKind.wrap IntKind.u32 (IntKind.wrap IntKind.u32 n15 * 65536)) +
 IntKind.wrap IntKind.u32 (IntKind.wrap IntKind.u32 n17 * 16777216)))]
 173 false 0])
 Tryz.prog.types[173].size 1 (Value.slice (some (Addr.mk (List.length L) 0 none)) 1 1))
 fun x18 =>
 obind
 (app
 (L ++
 [LBlk.cells
 [Value.int IntKind.u32
 (IntKind.wrap IntKind.u32
 (IntKind.wrap IntKind.u32
 (IntKind.wrap IntKind.u32 (IntKind.wrap IntKind.u32 n11 + IntKind.wrap IntKind.u32 (IntKind.wrap IntKind.u32 n13 * 256)) +
 IntKind.wrap IntKind.u32 (IntKind.wrap IntKind.u32 n15 * 65536)) +
 IntKind.wrap IntKind.u32 (IntKind.wrap IntKind.u32 n17 * 16777216)))]
 173 false 0])
 173 Tryz.prog.types[173].size Tryz.prog.types[173].bytes l8 1 x18)
 fun x19 => f96_l20 k j14_0 j20 l1 l2 l3 n4 n5 b6 n7 x19.fst (IntKind.wrap IntKind.i64 (n9 + 4)) x19.snd)
 (obind (srcOf (L ++ [LBlk.cells [] 173 false 0]) Tryz.prog.types[173].size l2.n (Value.slice l2.a l2.n l2.c)) fun x20 =>
 obind (app (L ++ [LBlk.cells [] 173 false 0]) 173 Tryz.prog.types[173].size Tryz.prog.types[173].bytes (Sl.mk (some (Addr.mk (List.length L) 0 none)) 0 0) l2.n x20) fun x21 =>
 obind (srcOf x21.snd Tryz.prog.types[173].size l1.n (Value.slice l1.a l1.n l1.c)) fun x22 =>
 obind (app x21.snd 173 Tryz.prog.types[173].size Tryz.prog.types[173].bytes x21.fst l1.n x22) fun x23 =>
 obind (idx x23.fst 12 1) fun a24 =>
 obind (Option.bind (cell x23.snd a24) (asI IntKind.u32)) fun n25 =>
 obind (idx x23.fst 12 1) fun a26 =>
 obind (stores x23.snd a26 [Value.int IntKind.u32 (bitop BinOp.xor IntKind.u32 n25 (IntKind.wrap IntKind.u32 (Int.tmod n7 4294967296)))]) fun L27 =>
 obind (idx x23.fst 13 1) fun a28 =>
 obind (Option.bind (cell L27 a28) (asI IntKind.u32)) fun n29 =>
 obind (idx x23.fst 13 1) fun a30 =>
 obind (stores L27 a30 [Value.int IntKind.u32 (bitop BinOp.xor IntKind.u32 n29 (IntKind.wrap IntKind.u32 (IntKind.wrap IntKind.u64 (Int.tdiv n7 4294967296))))]) fun L31 =>
 lif b6
 (obind (idx x23.fst 14 1) fun a32 =>
 obind (Option.bind (cell L31 a32) (asI IntKind.u32)) fun n33 =>
 obind (idx x23.fst 14 1) fun a34 =>
 obind (stores L31 a34 [Value.int IntKind.u32 (bitop BinOp.xor IntKind.u32 n33 4294967295)]) fun L35 =>
 f96_l30 k j14_0 k l1 l2 l3 n4 n5 l8 x23.fst (Sl.mk (some (Addr.mk (List.length L35) 0 none)) 10 10) 0
 (L35 ++ [Proofs.YtffcfaabjodpcaaGreatDoor.rowsC]))
 (f96_l30 k j14_0 k l1 l2 l3 n4 n5 l8 x23.fst (Sl.mk (some (Addr.mk (List.length L31) 0 none)) 10 10) 0
 (L31 ++ [Proofs.YtffcfaabjodpcaaGreatDoor.rowsC]))) := by kernel_rfl
theorem f96_l30_eq (k : Nat) (j14_0 : Nat) (j30 : Nat) (l1 : Sl) (l2 : Sl) (l3 : Sl) (n4 : Int) (n5 : Int) (l6 : Sl) (l7 : Sl) (l8 : Sl) (n9 : Int) (L : LHeap) : f96_l30 k j14_0 (j30 + 1) l1 l2 l3 n4 n5 l6 l7 l8 n9 L =
 lif (decide (n9 < 10))
 (obind (idx l8 n9 1) fun a10 =>
 obind (Option.bind (cell L a10) asS) fun s11 =>
 obind (byteAt s11 0) fun n12 =>
 when (Proofs.YtffcfaabjodpcaaGreatDoor.hexB n12)
 (obind (idx l6 (Proofs.YtffcfaabjodpcaaGreatDoor.hexN n12) 1) fun a13 =>
 obind (Option.bind (cell L a13) (asI IntKind.u32)) fun n14 =>
 obind (byteAt s11 1) fun n15 =>
 when (Proofs.YtffcfaabjodpcaaGreatDoor.hexB n15)
 (obind (Option.bind (cell L a13) (asI IntKind.u32)) fun n16 =>
 when (same (Value.int IntKind.u32 n14) (Value.int IntKind.u32 n16))
 (obind (idx l6 (Proofs.YtffcfaabjodpcaaGreatDoor.hexN n15) 1) fun a17 =>
 obind (Option.bind (cell L a17) (asI IntKind.u32)) fun n18 =>
 when (Proofs.YtffcfaabjodpcaaGreatDoor.mixB l7 0 4 8 12 n14 n18 L)
 (obind (byteAt s11 2) fun n19 =>
 when (Proofs.YtffcfaabjodpcaaGreatDoor.hexB n19)
 (obind (idx l6 (Proofs.YtffcfaabjodpcaaGreatDoor.hexN n19) 1) fun a20 =>
 obind (Option.bind (cell (Proofs.YtffcfaabjodpcaaGreatDoor.mixH l7 0 4 8 12 n14 n18 L) a20) (asI IntKind.u32)) fun n21 =>
 obind (byteAt s11 3) fun n22 =>
 when (Proofs.YtffcfaabjodpcaaGreatDoor.hexB n22)
 (obind (Option.bind (cell (Proofs.YtffcfaabjodpcaaGreatDoor.mixH l7 0 4 8 12 n14 n18 L) a20) (asI IntKind.u32)) fun n23 =>
 when (same (Value.int IntKind.u32 n21) (Value.int IntKind.u32 n23))
 (obind (idx l6 (Proofs.YtffcfaabjodpcaaGreatDoor.hexN n22) 1) fun a24 =>
 obind (Option.bind (cell (Proofs.YtffcfaabjodpcaaGreatDoor.mixH l7 0 4 8 12 n14 n18 L) a24) (asI IntKind.u32)) fun n25 =>
 when (Proofs.YtffcfaabjodpcaaGreatDoor.mixB l7 1 5 9 13 n21 n25 (Proofs.YtffcfaabjodpcaaGreatDoor.mixH l7 0 4 8 12 n14 n18 L))
 (obind (byteAt s11 4) fun n26 =>
 when (Proofs.YtffcfaabjodpcaaGreatDoor.hexB n26)
 (obind (idx l6 (Proofs.YtffcfaabjodpcaaGreatDoor.hexN n26) 1) fun a27 =>
 obind
 (Option.bind
 (cell (Proofs.YtffcfaabjodpcaaGreatDoor.mixH l7 1 5 9 13 n21 n25 (Proofs.YtffcfaabjodpcaaGreatDoor.mixH l7 0 4 8 12 n14 n18 L)) a27)
 (asI IntKind.u32))
 fun n28 =>
 obind (byteAt s11 5) fun n29 =>
 when (Proofs.YtffcfaabjodpcaaGreatDoor.hexB n29)
 (obind
 (Option.bind
 (cell (Proofs.YtffcfaabjodpcaaGreatDoor.mixH l7 1 5 9 13 n21 n25 (Proofs.YtffcfaabjodpcaaGreatDoor.mixH l7 0 4 8 12 n14 n18 L)) a27)
 (asI IntKind.u32))
 fun n30 =>
 when (same (Value.int IntKind.u32 n28) (Value.int IntKind.u32 n30))
 (obind (idx l6 (Proofs.YtffcfaabjodpcaaGreatDoor.hexN n29) 1) fun a31 =>
 obind
 (Option.bind
 (cell (Proofs.YtffcfaabjodpcaaGreatDoor.mixH l7 1 5 9 13 n21 n25 (Proofs.YtffcfaabjodpcaaGreatDoor.mixH l7 0 4 8 12 n14 n18 L))
 a31)
 (asI IntKind.u32))
 fun n32 =>
 when
 (Proofs.YtffcfaabjodpcaaGreatDoor.mixB l7 2 6 10 14 n28 n32
 (Proofs.YtffcfaabjodpcaaGreatDoor.mixH l7 1 5 9 13 n21 n25 (Proofs.YtffcfaabjodpcaaGreatDoor.mixH l7 0 4 8 12 n14 n18 L)))
 (obind (byteAt s11 6) fun n33 =>
 when (Proofs.YtffcfaabjodpcaaGreatDoor.hexB n33)
 (obind (idx l6 (Proofs.YtffcfaabjodpcaaGreatDoor.hexN n33) 1) fun a34 =>
 obind
 (Option.bind
 (cell
 (Proofs.YtffcfaabjodpcaaGreatDoor.mixH l7 2 6 10 14 n28 n32
 (Proofs.YtffcfaabjodpcaaGreatDoor.mixH l7 1 5 9 13 n21 n25
 (Proofs.YtffcfaabjodpcaaGreatDoor.mixH l7 0 4 8 12 n14 n18 L)))
 a34)
 (asI IntKind.u32))
 fun n35 =>
 obind (byteAt s11 7) fun n36 =>
 when (Proofs.YtffcfaabjodpcaaGreatDoor.hexB n36)
 (obind
 (Option.bind
 (cell
 (Proofs.YtffcfaabjodpcaaGreatDoor.mixH l7 2 6 10 14 n28 n32
 (Proofs.YtffcfaabjodpcaaGreatDoor.mixH l7 1 5 9 13 n21 n25
 (Proofs.YtffcfaabjodpcaaGreatDoor.mixH l7 0 4 8 12 n14 n18 L)))
 a34)
 (asI IntKind.u32))
 fun n37 =>
 when (same (Value.int IntKind.u32 n35) (Value.int IntKind.u32 n37))
 (obind (idx l6 (Proofs.YtffcfaabjodpcaaGreatDoor.hexN n36) 1) fun a38 =>
 obind
 (Option.bind
 (cell
 (Proofs.YtffcfaabjodpcaaGreatDoor.mixH l7 2 6 10 14 n28 n32
 (Proofs.YtffcfaabjodpcaaGreatDoor.mixH l7 1 5 9 13 n21 n25
 (Proofs.YtffcfaabjodpcaaGreatDoor.mixH l7 0 4 8 12 n14 n18 L)))
 a38)
 (asI IntKind.u32))
 fun n39 =>
 when
 (Proofs.YtffcfaabjodpcaaGreatDoor.mixB l7 3 7 11 15 n35 n39
 (Proofs.YtffcfaabjodpcaaGreatDoor.mixH l7 2 6 10 14 n28 n32
 (Proofs.YtffcfaabjodpcaaGreatDoor.mixH l7 1 5 9 13 n21 n25
 (Proofs.YtffcfaabjodpcaaGreatDoor.mixH l7 0 4 8 12 n14 n18 L))))
 (obind (byteAt s11 8) fun n40 =>
 when (Proofs.YtffcfaabjodpcaaGreatDoor.hexB n40)
 (obind (idx l6 (Proofs.YtffcfaabjodpcaaGreatDoor.hexN n40) 1) fun a41 =>
 obind
 (Option.bind
 (cell
 (Proofs.YtffcfaabjodpcaaGreatDoor.mixH l7 3 7 11 15 n35 n39
 (Proofs.YtffcfaabjodpcaaGreatDoor.mixH l7 2 6 10 14 n28 n32
 (Proofs.YtffcfaabjodpcaaGreatDoor.mixH l7 1 5 9 13 n21 n25
 (Proofs.YtffcfaabjodpcaaGreatDoor.mixH l7 0 4 8 12 n14 n18 L))))
 a41)
 (asI IntKind.u32))
 fun n42 =>
 obind (byteAt s11 9) fun n43 =>
 when (Proofs.YtffcfaabjodpcaaGreatDoor.hexB n43)
 (obind
 (Option.bind
 (cell
 (Proofs.YtffcfaabjodpcaaGreatDoor.mixH l7 3 7 11 15 n35 n39
 (Proofs.YtffcfaabjodpcaaGreatDoor.mixH l7 2 6 10 14 n28 n32
 (Proofs.YtffcfaabjodpcaaGreatDoor.mixH l7 1 5 9 13 n21 n25
 (Proofs.YtffcfaabjodpcaaGreatDoor.mixH l7 0 4 8 12 n14 n18 L))))
 a41)
 (asI IntKind.u32))
 fun n44 =>
 when (same (Value.int IntKind.u32 n42) (Value.int IntKind.u32 n44))
 (obind (idx l6 (Proofs.YtffcfaabjodpcaaGreatDoor.hexN n43) 1) fun a45 =>
 obind
 (Option.bind
 (cell
 (Proofs.YtffcfaabjodpcaaGreatDoor.mixH l7 3 7 11 15 n35 n39
 (Proofs.YtffcfaabjodpcaaGreatDoor.mixH l7 2 6 10 14 n28 n32
 (Proofs.YtffcfaabjodpcaaGreatDoor.mixH l7 1 5 9 13 n21 n25
 (Proofs.YtffcfaabjodpcaaGreatDoor.mixH l7 0 4 8 12 n14 n18 L))))
 a45)
 (asI IntKind.u32))
 fun n46 =>
 when
 (Proofs.YtffcfaabjodpcaaGreatDoor.mixB l7 0 5 10 15 n42 n46
 (Proofs.YtffcfaabjodpcaaGreatDoor.mixH l7 3 7 11 15 n35 n39
 (Proofs.YtffcfaabjodpcaaGreatDoor.mixH l7 2 6 10 14 n28 n32
 (Proofs.YtffcfaabjodpcaaGreatDoor.mixH l7 1 5 9 13 n21 n25
 (Proofs.YtffcfaabjodpcaaGreatDoor.mixH l7 0 4 8 12 n14 n18 L)))))
 (obind (byteAt s11 10) fun n47 =>
 when (Proofs.YtffcfaabjodpcaaGreatDoor.hexB n47)
 (obind (idx l6 (Proofs.YtffcfaabjodpcaaGreatDoor.hexN n47) 1) fun a48 =>
 obind
 (Option.bind
 (cell
 (Proofs.YtffcfaabjodpcaaGreatDoor.mixH l7 0 5 10 15 n42 n46
 (Proofs.YtffcfaabjodpcaaGreatDoor.mixH l7 3 7 11 15 n35 n39
 (Proofs.YtffcfaabjodpcaaGreatDoor.mixH l7 2 6 10 14 n28 n32
 (Proofs.YtffcfaabjodpcaaGreatDoor.mixH l7 1 5 9 13 n21 n25
 (Proofs.YtffcfaabjodpcaaGreatDoor.mixH l7 0 4 8 12 n14 n18
 L)))))
 a48)
 (asI IntKind.u32))
 fun n49 =>
 obind (byteAt s11 11) fun n50 =>
 when (Proofs.YtffcfaabjodpcaaGreatDoor.hexB n50)
 (obind
 (Option.bind
 (cell
 (Proofs.YtffcfaabjodpcaaGreatDoor.mixH l7 0 5 10 15 n42 n46
 (Proofs.YtffcfaabjodpcaaGreatDoor.mixH l7 3 7 11 15 n35 n39
 (Proofs.YtffcfaabjodpcaaGreatDoor.mixH l7 2 6 10 14 n28 n32
 (Proofs.YtffcfaabjodpcaaGreatDoor.mixH l7 1 5 9 13 n21 n25
 (Proofs.YtffcfaabjodpcaaGreatDoor.mixH l7 0 4 8 12 n14 n18
 L)))))
 a48)
 (asI IntKind.u32))
 fun n51 =>
 when (same (Value.int IntKind.u32 n49) (Value.int IntKind.u32 n51))
 (obind (idx l6 (Proofs.YtffcfaabjodpcaaGreatDoor.hexN n50) 1)
 fun a52 =>
 obind
 (Option.bind
 (cell
 (Proofs.YtffcfaabjodpcaaGreatDoor.mixH l7 0 5 10 15 n42 n46
 (Proofs.YtffcfaabjodpcaaGreatDoor.mixH l7 3 7 11 15 n35
 n39
 (Proofs.YtffcfaabjodpcaaGreatDoor.mixH l7 2 6 10 14 n28
 n32
 (Proofs.YtffcfaabjodpcaaGreatDoor.mixH l7 1 5 9 13 n21
 n25
 (Proofs.YtffcfaabjodpcaaGreatDoor.mixH l7 0 4 8 12
 n14 n18 L)))))
 a52)
 (asI IntKind.u32))
 fun n53 =>
 when
 (Proofs.YtffcfaabjodpcaaGreatDoor.mixB l7 1 6 11 12 n49 n53
 (Proofs.YtffcfaabjodpcaaGreatDoor.mixH l7 0 5 10 15 n42 n46
 (Proofs.YtffcfaabjodpcaaGreatDoor.mixH l7 3 7 11 15 n35
 n39
 (Proofs.YtffcfaabjodpcaaGreatDoor.mixH l7 2 6 10 14 n28
 n32
 (Proofs.YtffcfaabjodpcaaGreatDoor.mixH l7 1 5 9 13 n21
 n25
 (Proofs.YtffcfaabjodpcaaGreatDoor.mixH l7 0 4 8 12
 n14 n18 L))))))
 (obind (byteAt s11 12) fun n54 =>
 when (Proofs.YtffcfaabjodpcaaGreatDoor.hexB n54)
 (obind
 (idx l6 (Proofs.YtffcfaabjodpcaaGreatDoor.hexN n54) 1)
 fun a55 =>
 obind
 (Option.bind
 (cell
 (Proofs.YtffcfaabjodpcaaGreatDoor.mixH l7 1 6 11
 12 n49 n53
 (Proofs.YtffcfaabjodpcaaGreatDoor.mixH l7 0 5 10
 15 n42 n46
 (Proofs.YtffcfaabjodpcaaGreatDoor.mixH l7 3 7
 11 15 n35 n39
 (Proofs.YtffcfaabjodpcaaGreatDoor.mixH l7 2
 6 10 14 n28 n32
 (Proofs.YtffcfaabjodpcaaGreatDoor.mixH l7
 1 5 9 13 n21 n25
 (Proofs.YtffcfaabjodpcaaGreatDoor.mixH
 l7 0 4 8 12 n14 n18 L))))))
 a55)
 (asI IntKind.u32))
 fun n56 =>
 obind (byteAt s11 13) fun n57 =>
 when (Proofs.YtffcfaabjodpcaaGreatDoor.hexB n57)
 (obind
 (Option.bind
 (cell
 (Proofs.YtffcfaabjodpcaaGreatDoor.mixH l7 1
 6 11 12 n49 n53
 (Proofs.YtffcfaabjodpcaaGreatDoor.mixH l7
 0 5 10 15 n42 n46
 (Proofs.YtffcfaabjodpcaaGreatDoor.mixH
 l7 3 7 11 15 n35 n39
 (Proofs.YtffcfaabjodpcaaGreatDoor.mixH
 l7 2 6 10 14 n28 n32
 (Proofs.YtffcfaabjodpcaaGreatDoor.mixH
 l7 1 5 9 13 n21 n25
 (Proofs.YtffcfaabjodpcaaGreatDoor.mixH
 l7 0 4 8 12 n14 n18 L))))))
 a55)
 (asI IntKind.u32))
 fun n58 =>
 when
 (same (Value.int IntKind.u32 n56)
 (Value.int IntKind.u32 n58))
 (obind
 (idx l6
 (Proofs.YtffcfaabjodpcaaGreatDoor.hexN
 n57)
 1)
 fun a59 =>
 obind
 (Option.bind
 (cell
 (Proofs.YtffcfaabjodpcaaGreatDoor.mixH
 l7 1 6 11 12 n49 n53
 (Proofs.YtffcfaabjodpcaaGreatDoor.mixH
 l7 0 5 10 15 n42 n46
 (Proofs.YtffcfaabjodpcaaGreatDoor.mixH
 l7 3 7 11 15 n35 n39
 (Proofs.YtffcfaabjodpcaaGreatDoor.mixH
 l7 2 6 10 14 n28 n32
 (Proofs.YtffcfaabjodpcaaGreatDoor.mixH
 l7 1 5 9 13 n21 n25
 (Proofs.YtffcfaabjodpcaaGreatDoor.mixH
 l7 0 4 8 12 n14 n18
 L))))))
 a59)
 (asI IntKind.u32))
 fun n60 =>
 when
 (Proofs.YtffcfaabjodpcaaGreatDoor.mixB
 l7 2 7 8 13 n56 n60
 (Proofs.YtffcfaabjodpcaaGreatDoor.mixH
 l7 1 6 11 12 n49 n53
 (Proofs.YtffcfaabjodpcaaGreatDoor.mixH
 l7 0 5 10 15 n42 n46
 (Proofs.YtffcfaabjodpcaaGreatDoor.mixH
 l7 3 7 11 15 n35 n39
 (Proofs.YtffcfaabjodpcaaGreatDoor.mixH
 l7 2 6 10 14 n28 n32
 (Proofs.YtffcfaabjodpcaaGreatDoor.mixH
 l7 1 5 9 13 n21 n25
 (Proofs.YtffcfaabjodpcaaGreatDoor.mixH
 l7 0 4 8 12 n14 n18
 L)))))))
 (obind (byteAt s11 14) fun n61 =>
 when
 (Proofs.YtffcfaabjodpcaaGreatDoor.hexB
 n61)
 (obind
 (idx l6
 (Proofs.YtffcfaabjodpcaaGreatDoor.hexN
 n61)
 1)
 fun a62 =>
 obind
 (Option.bind
 (cell
 (Proofs.YtffcfaabjodpcaaGreatDoor.mixH
 l7 2 7 8 13 n56 n60
 (Proofs.YtffcfaabjodpcaaGreatDoor.mixH
 l7 1 6 11 12 n49 n53
 (Proofs.YtffcfaabjodpcaaGreatDoor.mixH
 l7 0 5 10 15 n42 n46
 (Proofs.YtffcfaabjodpcaaGreatDoor.mixH
 l7 3 7 11 15 n35 n39
 (Proofs.YtffcfaabjodpcaaGreatDoor.mixH
 l7 2 6 10 14 n28
 n32
 (Proofs.YtffcfaabjodpcaaGreatDoor.mixH
 l7 1 5 9 13 n21
 n25
 (Proofs.YtffcfaabjodpcaaGreatDoor.mixH
 l7 0 4 8 12
 n14 n18
 L)))))))
 a62)
 (asI IntKind.u32))
 fun n63 =>
 obind (byteAt s11 15) fun n64 =>
 when
 (Proofs.YtffcfaabjodpcaaGreatDoor.hexB
 n64)
 (obind
 (Option.bind
 (cell
 (Proofs.YtffcfaabjodpcaaGreatDoor.mixH
 l7 2 7 8 13 n56 n60
 (Proofs.YtffcfaabjodpcaaGreatDoor.mixH
 l7 1 6 11 12 n49
 n53
 (Proofs.YtffcfaabjodpcaaGreatDoor.mixH
 l7 0 5 10 15 n42
 n46
 (Proofs.YtffcfaabjodpcaaGreatDoor.mixH
 l7 3 7 11 15
 n35 n39
 (Proofs.YtffcfaabjodpcaaGreatDoor.mixH
 l7 2 6 10 14
 n28 n32
 (Proofs.YtffcfaabjodpcaaGreatDoor.mixH
 l7 1 5 9
 13 n21 n25
 (Proofs.YtffcfaabjodpcaaGreatDoor.mixH
 l7 0 4 8
 12 n14
 n18
 L)))))))
 a62)
 (asI IntKind.u32))
 fun n65 =>
 when
 (same
 (Value.int IntKind.u32
 n63)
 (Value.int IntKind.u32
 n65))
 (obind
 (idx l6
 (Proofs.YtffcfaabjodpcaaGreatDoor.hexN
 n64)
 1)
 fun a66 =>
 obind
 (Option.bind
 (cell
 (Proofs.YtffcfaabjodpcaaGreatDoor.mixH
 l7 2 7 8 13
 n56 n60
 (Proofs.YtffcfaabjodpcaaGreatDoor.mixH
 l7 1 6 11 12
 n49 n53
 (Proofs.YtffcfaabjodpcaaGreatDoor.mixH
 l7 0 5 10
 15 n42 n46
 (Proofs.YtffcfaabjodpcaaGreatDoor.mixH
 l7 3 7
 11 15
 n35 n39
 (Proofs.YtffcfaabjodpcaaGreatDoor.mixH
 l7 2 6
 10 14
 n28
 n32
 (Proofs.YtffcfaabjodpcaaGreatDoor.mixH
 l7 1
 5 9
 13
 n21
 n25
 (Proofs.YtffcfaabjodpcaaGreatDoor.mixH
 l7
 0
 4
 8
 12
 n14
 n18
 L)))))))
 a66)
 (asI IntKind.u32))
 fun n67 =>
 when
 (Proofs.YtffcfaabjodpcaaGreatDoor.mixB
 l7 3 4 9 14 n63
 n67
 (Proofs.YtffcfaabjodpcaaGreatDoor.mixH
 l7 2 7 8 13
 n56 n60
 (Proofs.YtffcfaabjodpcaaGreatDoor.mixH
 l7 1 6 11 12
 n49 n53
 (Proofs.YtffcfaabjodpcaaGreatDoor.mixH
 l7 0 5 10
 15 n42 n46
 (Proofs.YtffcfaabjodpcaaGreatDoor.mixH
 l7 3 7
 11 15
 n35 n39
 (Proofs.YtffcfaabjodpcaaGreatDoor.mixH
 l7 2 6
 10 14
 n28
 n32
 (Proofs.YtffcfaabjodpcaaGreatDoor.mixH
 l7 1
 5 9
 13
 n21
 n25
 (Proofs.YtffcfaabjodpcaaGreatDoor.mixH
 l7
 0
 4
 8
 12
 n14
 n18
 L))))))))
 (f96_l30
 k j14_0 j30 l1
 l2 l3 n4 n5 l6
 l7 l8
 (IntKind.wrap
 IntKind.i64
 (n9 + 1))
 (Proofs.YtffcfaabjodpcaaGreatDoor.mixH
 l7 3 4 9 14
 n63 n67
 (Proofs.YtffcfaabjodpcaaGreatDoor.mixH
 l7 2 7 8 13
 n56 n60
 (Proofs.YtffcfaabjodpcaaGreatDoor.mixH
 l7 1 6 11
 12 n49 n53
 (Proofs.YtffcfaabjodpcaaGreatDoor.mixH
 l7 0 5
 10 15
 n42 n46
 (Proofs.YtffcfaabjodpcaaGreatDoor.mixH
 l7 3 7
 11 15
 n35
 n39
 (Proofs.YtffcfaabjodpcaaGreatDoor.mixH
 l7 2
 6 10
 14
 n28
 n32
 (Proofs.YtffcfaabjodpcaaGreatDoor.mixH
 l7
 1
 5
 9
 13
 n21
 n25
 (Proofs.YtffcfaabjodpcaaGreatDoor.mixH
 l7
 0
 4
 8
 12
 n14
 n18
 L)))))))))))))))))))))))))))))))))))))))))
 (f96_l42 k j14_0 k l1 l2 l3 n4 n5 l7 0 L) := by kernel_rfl
theorem f96_l42_eq (k : Nat) (j14_0 : Nat) (j42 : Nat) (l1 : Sl) (l2 : Sl) (l3 : Sl) (n4 : Int) (n5 : Int) (l6 : Sl) (n7 : Int) (L : LHeap) : f96_l42 k j14_0 (j42 + 1) l1 l2 l3 n4 n5 l6 n7 L =
 lif (decide (n7 < 8))
 (obind (idx l2 n7 1) fun a8 =>
 obind (Option.bind (cell L a8) (asI IntKind.u32)) fun n9 =>
 obind (idx l6 n7 1) fun a10 =>
 obind (Option.bind (cell L a10) (asI IntKind.u32)) fun n11 =>
 obind (idx l6 (IntKind.wrap IntKind.i64 (n7 + 8)) 1) fun a12 =>
 obind (Option.bind (cell L a12) (asI IntKind.u32)) fun n13 =>
 obind (idx l2 n7 1) fun a14 =>
 obind (stores L a14 [Value.int IntKind.u32 (bitop BinOp.xor IntKind.u32 (bitop BinOp.xor IntKind.u32 n9 n11) n13)]) fun L15 =>
 f96_l42 k j14_0 j42 l1 l2 l3 n4 n5 l6 (IntKind.wrap IntKind.i64 (n7 + 1)) L15)
 (f96_l14 k j14_0 l1 l2 l3 n4 (IntKind.wrap IntKind.i64 (n5 + 64)) L) := by kernel_rfl
theorem f96_l47_eq (k : Nat) (j47 : Nat) (l0 : Sl) (l1 : Sl) (n2 : Int) (L : LHeap) : f96_l47 k (j47 + 1) l0 l1 n2 L =
 lif (decide (n2 < 8))
 (obind (idx l0 n2 1) fun a3 =>
 obind (Option.bind (cell L a3) (asI IntKind.u32)) fun n4 =>
 obind (idx l0 n2 1) fun a5 =>
 obind (Option.bind (cell L a5) (asI IntKind.u32)) fun n6 =>
 obind (idx l0 n2 1) fun a7 =>
 obind (Option.bind (cell L a7) (asI IntKind.u32)) fun n8 =>
 obind (idx l0 n2 1) fun a9 =>
 obind (Option.bind (cell L a9) (asI IntKind.u32)) fun n10 =>
 obind
 (srcOf
 (L ++
 [LBlk.cells
 [Value.int IntKind.u8 (IntKind.wrap IntKind.u8 (Int.tmod n4 256)),
 Value.int IntKind.u8 (IntKind.wrap IntKind.u8 (Int.tmod (IntKind.wrap IntKind.u32 (Int.tdiv n6 256)) 256)),
 Value.int IntKind.u8 (IntKind.wrap IntKind.u8 (Int.tmod (IntKind.wrap IntKind.u32 (Int.tdiv n8 65536)) 256)),
 Value.int IntKind.u8 (IntKind.wrap IntKind.u8 (IntKind.wrap IntKind.u32 (Int.tdiv n10 16777216)))]
 5 false 0])
 Tryz.prog.types[5].size 4 (Value.slice (some (Addr.mk (List.length L) 0 none)) 4 4))
 fun x11 =>
 obind
 (app
 (L ++
 [LBlk.cells
 [Value.int IntKind.u8 (IntKind.wrap IntKind.u8 (Int.tmod n4 256)),
 Value.int IntKind.u8 (IntKind.wrap IntKind.u8 (Int.tmod (IntKind.wrap IntKind.u32 (Int.tdiv n6 256)) 256)),
 Value.int IntKind.u8 (IntKind.wrap IntKind.u8 (Int.tmod (IntKind.wrap IntKind.u32 (Int.tdiv n8 65536)) 256)),
 Value.int IntKind.u8 (IntKind.wrap IntKind.u8 (IntKind.wrap IntKind.u32 (Int.tdiv n10 16777216)))]
 5 false 0])
 5 Tryz.prog.types[5].size Tryz.prog.types[5].bytes l1 4 x11)
 fun x12 => f96_l47 k j47 l0 x12.fst (IntKind.wrap IntKind.i64 (n2 + 1)) x12.snd)
 (obind (bytesOf L l1) fun s13 => some (LR.ret (Value.tuple #[Value.string s13, Value.int IntKind.i64 0]) L)) := by kernel_rfl
end Go.Proofs.YtffcfaabjodpcaaGreatDoor.Pt
end

section
set_option maxRecDepth 100000
namespace Go.Proofs.YtffcfaabjodpcaaGreatDoor
open Go Go.Rlm
theorem round_step {k j14 j30 q qm p r : Nat} {l1 l2 l3 : Sl} {n4 n5 : Int} {L : LHeap} {v m : List Nat} (hq : q < L.length) (hne : qm ≠ q) (hm : L[qm]? = some (.cells (m.map uV) 173 false 1)) (hml : m.length = 16) (hms : ∀ n ∈ m, n < 4294967296)
    (hp : L[p]? = some rowsC) (hpq : p ≠ q) (hvl : v.length = 16) (hv : ∀ n ∈ v, n < 4294967296) (hr : r < 10) :
    Pt.f96_l30 k j14 (j30 + 1) l1 l2 l3 n4 n5 ⟨some ⟨qm, 0, none⟩, 16, OPEN⟩ ⟨some ⟨q, 0, none⟩, 16, OPEN⟩ ⟨some ⟨p, 0, none⟩, 10, 10⟩ (r : Int) (H32 L q v) =
    Pt.f96_l30 k j14 j30 l1 l2 l3 n4 n5 ⟨some ⟨qm, 0, none⟩, 16, OPEN⟩ ⟨some ⟨q, 0, none⟩, 16, OPEN⟩ ⟨some ⟨p, 0, none⟩, 10, 10⟩ ((r + 1 : Nat) : Int) (H32 L q (roundS m v (sigmaS.getD r []))) := by
  have hp' : (H32 L q v)[p]? = some rowsC := by unfold H32; rw [get_set_ne hpq.symm]; exact hp
  have hmg : ∀ v, (H32 L q v)[qm]? = some (.cells (m.map uV) 173 false 1) := fun v => by unfold H32; rw [get_set_ne hne.symm]; exact hm
  have rd : ∀ v i, i < 16 → (cell (H32 L q v) ⟨qm, 0 + i * 1, none⟩).bind (asI .u32) = some ((m.getD i 0 : Nat) : Int) := fun v i hi => by
    rw [cell_of (hmg v), Nat.zero_add, Nat.mul_one, u32_get (by omega)]
  have hx : ∀ i, m.getD i 0 < 4294967296 := fun i => getD_lt (by decide) hms
  have hround : roundS m v (sigmaS.getD r []) = (List.range 8).foldl (laneS m (sigmaS.getD r [])) v := rfl
  rw [hround]
  generalize hE : (fun w => Pt.f96_l30 k j14 j30 l1 l2 l3 n4 n5 ⟨some ⟨qm, 0, none⟩, 16, OPEN⟩ ⟨some ⟨q, 0, none⟩, 16, OPEN⟩ ⟨some ⟨p, 0, none⟩, 10, 10⟩ ((r + 1 : Nat) : Int) (H32 L q w)) = E
  have hE' : ∀ w, E w = Pt.f96_l30 k j14 j30 l1 l2 l3 n4 n5 ⟨some ⟨qm, 0, none⟩, 16, OPEN⟩ ⟨some ⟨q, 0, none⟩, 16, OPEN⟩ ⟨some ⟨p, 0, none⟩, 10, 10⟩ ((r + 1 : Nat) : Int) (H32 L q w) := fun w => by rw [← hE]
  rw [← hE']
  clear hE
  rw [Pt.f96_l30_eq, decide_eq_true (by omega), lif_true, idx_of hr, obind_some, rows_cell hp' hr, obind_some, wI64 (n := (r : Int) + 1) (by omega) (by omega), show (r : Int) + 1 = ((r + 1 : Nat) : Int) by omega]
  have R := fun i (hi : i < 16) => row_at (r := r) (i := i) hr hi
  have A0 : byteAt (rowStr r) 0 = some (dig ((sigmaS.getD r []).getD 0 0) : Int) := (R 0 (by omega)).1
  have B0 := (R 0 (by omega)).2
  have A1 : byteAt (rowStr r) 1 = some (dig ((sigmaS.getD r []).getD 1 0) : Int) := (R 1 (by omega)).1
  have B1 := (R 1 (by omega)).2
  have A2 : byteAt (rowStr r) 2 = some (dig ((sigmaS.getD r []).getD 2 0) : Int) := (R 2 (by omega)).1
  have B2 := (R 2 (by omega)).2
  have A3 : byteAt (rowStr r) 3 = some (dig ((sigmaS.getD r []).getD 3 0) : Int) := (R 3 (by omega)).1
  have B3 := (R 3 (by omega)).2
  have A4 : byteAt (rowStr r) 4 = some (dig ((sigmaS.getD r []).getD 4 0) : Int) := (R 4 (by omega)).1
  have B4 := (R 4 (by omega)).2
  have A5 : byteAt (rowStr r) 5 = some (dig ((sigmaS.getD r []).getD 5 0) : Int) := (R 5 (by omega)).1
  have B5 := (R 5 (by omega)).2
  have A6 : byteAt (rowStr r) 6 = some (dig ((sigmaS.getD r []).getD 6 0) : Int) := (R 6 (by omega)).1
  have B6 := (R 6 (by omega)).2
  have A7 : byteAt (rowStr r) 7 = some (dig ((sigmaS.getD r []).getD 7 0) : Int) := (R 7 (by omega)).1
  have B7 := (R 7 (by omega)).2
  have A8 : byteAt (rowStr r) 8 = some (dig ((sigmaS.getD r []).getD 8 0) : Int) := (R 8 (by omega)).1
  have B8 := (R 8 (by omega)).2
  have A9 : byteAt (rowStr r) 9 = some (dig ((sigmaS.getD r []).getD 9 0) : Int) := (R 9 (by omega)).1
  have B9 := (R 9 (by omega)).2
  have A10 : byteAt (rowStr r) 10 = some (dig ((sigmaS.getD r []).getD 10 0) : Int) := (R 10 (by omega)).1
  have B10 := (R 10 (by omega)).2
  have A11 : byteAt (rowStr r) 11 = some (dig ((sigmaS.getD r []).getD 11 0) : Int) := (R 11 (by omega)).1
  have B11 := (R 11 (by omega)).2
  have A12 : byteAt (rowStr r) 12 = some (dig ((sigmaS.getD r []).getD 12 0) : Int) := (R 12 (by omega)).1
  have B12 := (R 12 (by omega)).2
  have A13 : byteAt (rowStr r) 13 = some (dig ((sigmaS.getD r []).getD 13 0) : Int) := (R 13 (by omega)).1
  have B13 := (R 13 (by omega)).2
  have A14 : byteAt (rowStr r) 14 = some (dig ((sigmaS.getD r []).getD 14 0) : Int) := (R 14 (by omega)).1
  have B14 := (R 14 (by omega)).2
  have A15 : byteAt (rowStr r) 15 = some (dig ((sigmaS.getD r []).getD 15 0) : Int) := (R 15 (by omega)).1
  have B15 := (R 15 (by omega)).2
  clear R
  clear hround
  generalize sigmaS.getD r [] = row at *
  generalize hr0 : row.getD 0 0 = x0 at *
  generalize hr1 : row.getD 1 0 = x1 at *
  generalize hr2 : row.getD 2 0 = x2 at *
  generalize hr3 : row.getD 3 0 = x3 at *
  generalize hr4 : row.getD 4 0 = x4 at *
  generalize hr5 : row.getD 5 0 = x5 at *
  generalize hr6 : row.getD 6 0 = x6 at *
  generalize hr7 : row.getD 7 0 = x7 at *
  generalize hr8 : row.getD 8 0 = x8 at *
  generalize hr9 : row.getD 9 0 = x9 at *
  generalize hr10 : row.getD 10 0 = x10 at *
  generalize hr11 : row.getD 11 0 = x11 at *
  generalize hr12 : row.getD 12 0 = x12 at *
  generalize hr13 : row.getD 13 0 = x13 at *
  generalize hr14 : row.getD 14 0 = x14 at *
  generalize hr15 : row.getD 15 0 = x15 at *
  rw [A0, obind_some, (dig_ok B0).1, when_true, (dig_ok B0).2, idx_of B0, obind_some, rd v _ B0, obind_some, A1, obind_some, (dig_ok B1).1, when_true, obind_some, same_self, when_true, (dig_ok B1).2, idx_of B1, obind_some, rd v _ B1, obind_some]
  have M0 : mixB ⟨some ⟨q, 0, none⟩, 16, OPEN⟩ 0 4 8 12 (m.getD x0 0 : Nat) (m.getD x1 0 : Nat) (H32 L q v) = true ∧ mixH ⟨some ⟨q, 0, none⟩, 16, OPEN⟩ 0 4 8 12 (m.getD x0 0 : Nat) (m.getD x1 0 : Nat) (H32 L q v) = H32 L q (mixS v 0 4 8 12 (m.getD x0 0) (m.getD x1 0)) :=
    mixR_of (a := 0) (b := 4) (c := 8) (d := 12) hq ⟨hvl, by omega, by omega, by omega, by omega, by omega, by omega, by omega, by omega, by omega, by omega⟩ hv (hx _) (hx _)
  rw [M0.1, when_true, M0.2]
  obtain ⟨hl1, hs1⟩ := mixS_four hv hvl (a := 0) (b := 4) (c := 8) (d := 12) (x := m.getD x0 0) (y := m.getD x1 0)
  clear M0
  generalize hv1 : mixS v 0 4 8 12 (m.getD x0 0) (m.getD x1 0) = v1 at *
  rw [A2, obind_some, (dig_ok B2).1, when_true, (dig_ok B2).2, idx_of B2, obind_some, rd v1 _ B2, obind_some, A3, obind_some, (dig_ok B3).1, when_true, obind_some, same_self, when_true, (dig_ok B3).2, idx_of B3, obind_some, rd v1 _ B3, obind_some]
  have M1 : mixB ⟨some ⟨q, 0, none⟩, 16, OPEN⟩ 1 5 9 13 (m.getD x2 0 : Nat) (m.getD x3 0 : Nat) (H32 L q v1) = true ∧ mixH ⟨some ⟨q, 0, none⟩, 16, OPEN⟩ 1 5 9 13 (m.getD x2 0 : Nat) (m.getD x3 0 : Nat) (H32 L q v1) = H32 L q (mixS v1 1 5 9 13 (m.getD x2 0) (m.getD x3 0)) :=
    mixR_of (a := 1) (b := 5) (c := 9) (d := 13) hq ⟨hl1, by omega, by omega, by omega, by omega, by omega, by omega, by omega, by omega, by omega, by omega⟩ hs1 (hx _) (hx _)
  rw [M1.1, when_true, M1.2]
  obtain ⟨hl2, hs2⟩ := mixS_four hs1 hl1 (a := 1) (b := 5) (c := 9) (d := 13) (x := m.getD x2 0) (y := m.getD x3 0)
  clear M1
  generalize hv2 : mixS v1 1 5 9 13 (m.getD x2 0) (m.getD x3 0) = v2 at *
  rw [A4, obind_some, (dig_ok B4).1, when_true, (dig_ok B4).2, idx_of B4, obind_some, rd v2 _ B4, obind_some, A5, obind_some, (dig_ok B5).1, when_true, obind_some, same_self, when_true, (dig_ok B5).2, idx_of B5, obind_some, rd v2 _ B5, obind_some]
  have M2 : mixB ⟨some ⟨q, 0, none⟩, 16, OPEN⟩ 2 6 10 14 (m.getD x4 0 : Nat) (m.getD x5 0 : Nat) (H32 L q v2) = true ∧ mixH ⟨some ⟨q, 0, none⟩, 16, OPEN⟩ 2 6 10 14 (m.getD x4 0 : Nat) (m.getD x5 0 : Nat) (H32 L q v2) = H32 L q (mixS v2 2 6 10 14 (m.getD x4 0) (m.getD x5 0)) :=
    mixR_of (a := 2) (b := 6) (c := 10) (d := 14) hq ⟨hl2, by omega, by omega, by omega, by omega, by omega, by omega, by omega, by omega, by omega, by omega⟩ hs2 (hx _) (hx _)
  rw [M2.1, when_true, M2.2]
  obtain ⟨hl3, hs3⟩ := mixS_four hs2 hl2 (a := 2) (b := 6) (c := 10) (d := 14) (x := m.getD x4 0) (y := m.getD x5 0)
  clear M2
  generalize hv3 : mixS v2 2 6 10 14 (m.getD x4 0) (m.getD x5 0) = v3 at *
  rw [A6, obind_some, (dig_ok B6).1, when_true, (dig_ok B6).2, idx_of B6, obind_some, rd v3 _ B6, obind_some, A7, obind_some, (dig_ok B7).1, when_true, obind_some, same_self, when_true, (dig_ok B7).2, idx_of B7, obind_some, rd v3 _ B7, obind_some]
  have M3 : mixB ⟨some ⟨q, 0, none⟩, 16, OPEN⟩ 3 7 11 15 (m.getD x6 0 : Nat) (m.getD x7 0 : Nat) (H32 L q v3) = true ∧ mixH ⟨some ⟨q, 0, none⟩, 16, OPEN⟩ 3 7 11 15 (m.getD x6 0 : Nat) (m.getD x7 0 : Nat) (H32 L q v3) = H32 L q (mixS v3 3 7 11 15 (m.getD x6 0) (m.getD x7 0)) :=
    mixR_of (a := 3) (b := 7) (c := 11) (d := 15) hq ⟨hl3, by omega, by omega, by omega, by omega, by omega, by omega, by omega, by omega, by omega, by omega⟩ hs3 (hx _) (hx _)
  rw [M3.1, when_true, M3.2]
  obtain ⟨hl4, hs4⟩ := mixS_four hs3 hl3 (a := 3) (b := 7) (c := 11) (d := 15) (x := m.getD x6 0) (y := m.getD x7 0)
  clear M3
  generalize hv4 : mixS v3 3 7 11 15 (m.getD x6 0) (m.getD x7 0) = v4 at *
  rw [A8, obind_some, (dig_ok B8).1, when_true, (dig_ok B8).2, idx_of B8, obind_some, rd v4 _ B8, obind_some, A9, obind_some, (dig_ok B9).1, when_true, obind_some, same_self, when_true, (dig_ok B9).2, idx_of B9, obind_some, rd v4 _ B9, obind_some]
  have M4 : mixB ⟨some ⟨q, 0, none⟩, 16, OPEN⟩ 0 5 10 15 (m.getD x8 0 : Nat) (m.getD x9 0 : Nat) (H32 L q v4) = true ∧ mixH ⟨some ⟨q, 0, none⟩, 16, OPEN⟩ 0 5 10 15 (m.getD x8 0 : Nat) (m.getD x9 0 : Nat) (H32 L q v4) = H32 L q (mixS v4 0 5 10 15 (m.getD x8 0) (m.getD x9 0)) :=
    mixR_of (a := 0) (b := 5) (c := 10) (d := 15) hq ⟨hl4, by omega, by omega, by omega, by omega, by omega, by omega, by omega, by omega, by omega, by omega⟩ hs4 (hx _) (hx _)
  rw [M4.1, when_true, M4.2]
  obtain ⟨hl5, hs5⟩ := mixS_four hs4 hl4 (a := 0) (b := 5) (c := 10) (d := 15) (x := m.getD x8 0) (y := m.getD x9 0)
  clear M4
  generalize hv5 : mixS v4 0 5 10 15 (m.getD x8 0) (m.getD x9 0) = v5 at *
  rw [A10, obind_some, (dig_ok B10).1, when_true, (dig_ok B10).2, idx_of B10, obind_some, rd v5 _ B10, obind_some, A11, obind_some, (dig_ok B11).1, when_true, obind_some, same_self, when_true, (dig_ok B11).2, idx_of B11, obind_some, rd v5 _ B11, obind_some]
  have M5 : mixB ⟨some ⟨q, 0, none⟩, 16, OPEN⟩ 1 6 11 12 (m.getD x10 0 : Nat) (m.getD x11 0 : Nat) (H32 L q v5) = true ∧ mixH ⟨some ⟨q, 0, none⟩, 16, OPEN⟩ 1 6 11 12 (m.getD x10 0 : Nat) (m.getD x11 0 : Nat) (H32 L q v5) = H32 L q (mixS v5 1 6 11 12 (m.getD x10 0) (m.getD x11 0)) :=
    mixR_of (a := 1) (b := 6) (c := 11) (d := 12) hq ⟨hl5, by omega, by omega, by omega, by omega, by omega, by omega, by omega, by omega, by omega, by omega⟩ hs5 (hx _) (hx _)
  rw [M5.1, when_true, M5.2]
  obtain ⟨hl6, hs6⟩ := mixS_four hs5 hl5 (a := 1) (b := 6) (c := 11) (d := 12) (x := m.getD x10 0) (y := m.getD x11 0)
  clear M5
  generalize hv6 : mixS v5 1 6 11 12 (m.getD x10 0) (m.getD x11 0) = v6 at *
  rw [A12, obind_some, (dig_ok B12).1, when_true, (dig_ok B12).2, idx_of B12, obind_some, rd v6 _ B12, obind_some, A13, obind_some, (dig_ok B13).1, when_true, obind_some, same_self, when_true, (dig_ok B13).2, idx_of B13, obind_some, rd v6 _ B13, obind_some]
  have M6 : mixB ⟨some ⟨q, 0, none⟩, 16, OPEN⟩ 2 7 8 13 (m.getD x12 0 : Nat) (m.getD x13 0 : Nat) (H32 L q v6) = true ∧ mixH ⟨some ⟨q, 0, none⟩, 16, OPEN⟩ 2 7 8 13 (m.getD x12 0 : Nat) (m.getD x13 0 : Nat) (H32 L q v6) = H32 L q (mixS v6 2 7 8 13 (m.getD x12 0) (m.getD x13 0)) :=
    mixR_of (a := 2) (b := 7) (c := 8) (d := 13) hq ⟨hl6, by omega, by omega, by omega, by omega, by omega, by omega, by omega, by omega, by omega, by omega⟩ hs6 (hx _) (hx _)
  rw [M6.1, when_true, M6.2]
  obtain ⟨hl7, hs7⟩ := mixS_four hs6 hl6 (a := 2) (b := 7) (c := 8) (d := 13) (x := m.getD x12 0) (y := m.getD x13 0)
  clear M6
  generalize hv7 : mixS v6 2 7 8 13 (m.getD x12 0) (m.getD x13 0) = v7 at *
  rw [A14, obind_some, (dig_ok B14).1, when_true, (dig_ok B14).2, idx_of B14, obind_some, rd v7 _ B14, obind_some, A15, obind_some, (dig_ok B15).1, when_true, obind_some, same_self, when_true, (dig_ok B15).2, idx_of B15, obind_some, rd v7 _ B15, obind_some]
  have M7 : mixB ⟨some ⟨q, 0, none⟩, 16, OPEN⟩ 3 4 9 14 (m.getD x14 0 : Nat) (m.getD x15 0 : Nat) (H32 L q v7) = true ∧ mixH ⟨some ⟨q, 0, none⟩, 16, OPEN⟩ 3 4 9 14 (m.getD x14 0 : Nat) (m.getD x15 0 : Nat) (H32 L q v7) = H32 L q (mixS v7 3 4 9 14 (m.getD x14 0) (m.getD x15 0)) :=
    mixR_of (a := 3) (b := 4) (c := 9) (d := 14) hq ⟨hl7, by omega, by omega, by omega, by omega, by omega, by omega, by omega, by omega, by omega, by omega⟩ hs7 (hx _) (hx _)
  rw [M7.1, when_true, M7.2]
  obtain ⟨hl8, hs8⟩ := mixS_four hs7 hl7 (a := 3) (b := 4) (c := 9) (d := 14) (x := m.getD x14 0) (y := m.getD x15 0)
  clear M7
  generalize hv8 : mixS v7 3 4 9 14 (m.getD x14 0) (m.getD x15 0) = v8 at *
  have hfin : (List.range 8).foldl (laneS m row) v = v8 := by
    rw [show List.range 8 = [0, 1, 2, 3, 4, 5, 6, 7] from rfl]
    simp only [List.foldl_cons, List.foldl_nil]
    rw [show laneS m row v 0 = mixS v 0 4 8 12 (m.getD (row.getD 0 0) 0) (m.getD (row.getD 1 0) 0) from rfl, hr0, hr1, hv1]
    rw [show laneS m row v1 1 = mixS v1 1 5 9 13 (m.getD (row.getD 2 0) 0) (m.getD (row.getD 3 0) 0) from rfl, hr2, hr3, hv2]
    rw [show laneS m row v2 2 = mixS v2 2 6 10 14 (m.getD (row.getD 4 0) 0) (m.getD (row.getD 5 0) 0) from rfl, hr4, hr5, hv3]
    rw [show laneS m row v3 3 = mixS v3 3 7 11 15 (m.getD (row.getD 6 0) 0) (m.getD (row.getD 7 0) 0) from rfl, hr6, hr7, hv4]
    rw [show laneS m row v4 4 = mixS v4 0 5 10 15 (m.getD (row.getD 8 0) 0) (m.getD (row.getD 9 0) 0) from rfl, hr8, hr9, hv5]
    rw [show laneS m row v5 5 = mixS v5 1 6 11 12 (m.getD (row.getD 10 0) 0) (m.getD (row.getD 11 0) 0) from rfl, hr10, hr11, hv6]
    rw [show laneS m row v6 6 = mixS v6 2 7 8 13 (m.getD (row.getD 12 0) 0) (m.getD (row.getD 13 0) 0) from rfl, hr12, hr13, hv7]
    rw [show laneS m row v7 7 = mixS v7 3 4 9 14 (m.getD (row.getD 14 0) 0) (m.getD (row.getD 15 0) 0) from rfl, hr14, hr15, hv8]
  rw [hfin, hE']
end Go.Proofs.YtffcfaabjodpcaaGreatDoor
end

section
set_option maxRecDepth 100000
namespace Go.Proofs.YtffcfaabjodpcaaGreatDoor
open Go Go.Rlm
theorem refround_ok {m v row : List Nat} (hv : ∀ n ∈ v, n < 4294967296) (hl : v.length = 16) : (roundS m v row).length = 16 ∧ ∀ n ∈ roundS m v row, n < 4294967296 := by
  unfold roundS
  generalize List.range 8 = is
  induction is generalizing v with
  | nil => exact ⟨hl, hv⟩
  | cons i is ih =>
    rw [List.foldl_cons]
    unfold laneS
    simp only
    obtain ⟨h1, h2⟩ := mixS_four hv hl (a := (lanesS.getD i []).getD 0 0) (b := (lanesS.getD i []).getD 1 0) (c := (lanesS.getD i []).getD 2 0) (d := (lanesS.getD i []).getD 3 0) (x := m.getD (row.getD (2 * i) 0) 0) (y := m.getD (row.getD (2 * i + 1) 0) 0)
    exact ih h2 h1
theorem refrounds_ok {m v : List Nat} (hv : ∀ n ∈ v, n < 4294967296) (hl : v.length = 16) : (roundsS m v).length = 16 ∧ ∀ n ∈ roundsS m v, n < 4294967296 := by
  unfold roundsS
  generalize sigmaS = is
  induction is generalizing v with
  | nil => exact ⟨hl, hv⟩
  | cons i is ih =>
    rw [List.foldl_cons]
    obtain ⟨h1, h2⟩ := refround_ok (m := m) (row := i) hv hl
    exact ih h2 h1
theorem rounds_run {k j14 q qm p : Nat} {l1 l2 l3 : Sl} {n4 n5 : Int} {L : LHeap} {m : List Nat} (hq : q < L.length) (hne : qm ≠ q) (hm : L[qm]? = some (.cells (m.map uV) 173 false 1)) (hml : m.length = 16) (hms : ∀ n ∈ m, n < 4294967296)
    (hp : L[p]? = some rowsC) (hpq : p ≠ q) : ∀ (t r j : Nat) (v : List Nat), v.length = 16 → (∀ n ∈ v, n < 4294967296) → r + t = 10 → t < j →
    Pt.f96_l30 k j14 j l1 l2 l3 n4 n5 ⟨some ⟨qm, 0, none⟩, 16, OPEN⟩ ⟨some ⟨q, 0, none⟩, 16, OPEN⟩ ⟨some ⟨p, 0, none⟩, 10, 10⟩ (r : Int) (H32 L q v) =
    Pt.f96_l42 k j14 k l1 l2 l3 n4 n5 ⟨some ⟨q, 0, none⟩, 16, OPEN⟩ 0 (H32 L q ((sigmaS.drop r).foldl (roundS m) v)) := by
  intro t
  induction t with
  | zero =>
    intro r j v hvl hv hr hj
    obtain ⟨j, rfl⟩ : ∃ j', j = j' + 1 := ⟨j - 1, by omega⟩
    obtain rfl : r = 10 := by omega
    rw [Pt.f96_l30_eq, decide_eq_false (by omega), lif_false]
    rfl
  | succ t ih =>
    intro r j v hvl hv hr hj
    obtain ⟨j, rfl⟩ : ∃ j', j = j' + 1 := ⟨j - 1, by omega⟩
    rw [round_step hq hne hm hml hms hp hpq hvl hv (by omega)]
    obtain ⟨h1, h2⟩ := refround_ok (m := m) (row := sigmaS.getD r []) hv hvl
    rw [ih (r + 1) j _ h1 h2 (by omega) (by omega)]
    have hlt : r < sigmaS.length := by show r < 10; omega
    rw [List.drop_eq_getElem_cons hlt, List.foldl_cons, List.getD_eq_getElem?_getD, List.getElem?_eq_getElem hlt, Option.getD_some]
theorem end_run {k j14 qh q : Nat} {l1 l3 : Sl} {n4 n5 : Int} {L : LHeap} {h v : List Nat} (hq : qh < L.length) (hne : q ≠ qh) (hv : L[q]? = some (.cells (v.map uV) 173 false 1)) (hvl : v.length = 16) (hvs : ∀ n ∈ v, n < 4294967296)
    (hhl : h.length = 8) (hhs : ∀ n ∈ h, n < 4294967296) : ∀ (t i j : Nat), i + t = 8 → t < j →
    Pt.f96_l42 k j14 j l1 ⟨some ⟨qh, 0, none⟩, 8, OPEN⟩ l3 n4 n5 ⟨some ⟨q, 0, none⟩, 16, OPEN⟩ (i : Int) (H32 L qh ((endS h v).take i ++ h.drop i)) =
    Pt.f96_l14 k j14 l1 ⟨some ⟨qh, 0, none⟩, 8, OPEN⟩ l3 n4 (IntKind.wrap .i64 (n5 + 64)) (H32 L qh (endS h v)) := by
  have hel : (endS h v).length = 8 := endS_length h v
  intro t
  induction t with
  | zero =>
    intro i j hi hj
    obtain ⟨j, rfl⟩ : ∃ j', j = j' + 1 := ⟨j - 1, by omega⟩
    obtain rfl : i = 8 := by omega
    rw [Pt.f96_l42_eq, decide_eq_false (by omega), lif_false, List.take_of_length_le (by omega), List.drop_of_length_le (by omega), List.append_nil]
  | succ t ih =>
    intro i j hi hj
    obtain ⟨j, rfl⟩ : ∃ j', j = j' + 1 := ⟨j - 1, by omega⟩
    have hi8 : i < 8 := by omega
    have hlen : ((endS h v).take i ++ h.drop i).length = 8 := by rw [List.length_append, List.length_take, List.length_drop, hel, hhl]; omega
    have hg : (H32 L qh ((endS h v).take i ++ h.drop i))[q]? = some (.cells (v.map uV) 173 false 1) := by unfold H32; rw [get_set_ne hne.symm]; exact hv
    have rv : ∀ o : Nat, o < 16 → (cell (H32 L qh ((endS h v).take i ++ h.drop i)) ⟨q, 0 + o * 1, none⟩).bind (asI .u32) = some ((v.getD o 0 : Nat) : Int) := fun o ho => by rw [cell_of hg, Nat.zero_add, Nat.mul_one, u32_get (by omega)]
    have g0 : ((endS h v).take i ++ h.drop i).getD i 0 = h.getD i 0 := by
      rw [List.getD_eq_getElem?_getD, List.getElem?_append_right (by rw [List.length_take, hel]; omega), List.length_take, hel, Nat.min_eq_left (by omega), Nat.sub_self, List.getElem?_drop, Nat.add_zero, List.getD_eq_getElem?_getD]
    have lh : h.getD i 0 < 4294967296 := getD_lt (by decide) hhs
    have lv : ∀ o, v.getD o 0 < 4294967296 := fun o => getD_lt (by decide) hvs
    have hset : ((endS h v).take i ++ h.drop i).set i (h.getD i 0 ^^^ v.getD i 0 ^^^ v.getD (i + 8) 0) = (endS h v).take (i + 1) ++ h.drop (i + 1) := by
      have e1 : (endS h v).take (i + 1) = (endS h v).take i ++ [h.getD i 0 ^^^ v.getD i 0 ^^^ v.getD (i + 8) 0] := by
        rw [List.take_add_one, List.getElem?_eq_getElem (by omega)]
        simp [endS]
      rw [e1, List.set_append_right _ _ (by rw [List.length_take, hel]; omega), List.length_take, hel, Nat.min_eq_left (by omega), Nat.sub_self, List.drop_eq_getElem_cons (by omega), List.set_cons_zero, List.append_assoc]
      rfl
    rw [Pt.f96_l42_eq, decide_eq_true (by omega), lif_true, idx_of hi8, obind_some, H32_rd hq (by omega), g0, obind_some, idx_of (show i < 16 by omega), obind_some, rv i (by omega), obind_some, wI64 (n := (i : Int) + 8) (by omega) (by omega),
      show (i : Int) + 8 = ((i + 8 : Nat) : Int) by omega, idx_of (show i + 8 < 16 by omega), obind_some, rv (i + 8) (by omega), obind_some, obind_some, bitop_xor lh (lv i), bitop_xor (xor_lt lh (lv i)) (lv (i + 8)), H32_st hq (by omega), obind_some, hset,
      wI64 (n := (i : Int) + 1) (by omega) (by omega), show (i : Int) + 1 = ((i + 1 : Nat) : Int) by omega]
    exact ih (i + 1) j (by omega) (by omega)
end Go.Proofs.YtffcfaabjodpcaaGreatDoor
end

section
set_option maxRecDepth 100000
namespace Go.Proofs.YtffcfaabjodpcaaGreatDoor
open Go Go.Rlm
theorem bytes173 : Tryz.prog.types[173].bytes = 4 := by kernel_rfl
/-- One more behind a slice that somebody owns, by way of a literal. -/
theorem app_one {L : LHeap} {s : Sl} {vs : List Value} {e : TypeId} {F : List Nat} (h : OS L s vs e F) (x : Value) (bytes : Nat) (hb : (vs.length + 1) * bytes ≤ 2 ^ 47) (hl : vs.length + 1 ≤ 2 ^ 62) (K : Sl × LHeap → R) :
    ∃ s' L' F', (obind (srcOf (L ++ [LBlk.cells [x] e false 0]) 1 1 (Value.slice (some (Addr.mk (List.length L) 0 none)) 1 1)) fun y => obind (Rlm.app (L ++ [LBlk.cells [x] e false 0]) e 1 bytes s 1 y) K) = K (s', L') ∧
      OS L' s' (vs ++ [x]) e F' ∧ (∀ i, i < L.length → i ∉ F → L'[i]? = L[i]?) ∧ L.length ≤ L'.length ∧ (∀ i ∈ F', i ∈ F ∨ L.length ≤ i) := by
  have hw : WS (L ++ [LBlk.cells [x] e false 0]) ⟨some ⟨L.length, 0, none⟩, 1, 1⟩ [x] e [L.length] := WS.lit rfl
  have hsrc := hw.rd.src
  have hos' := h.mono (L' := L ++ [LBlk.cells [x] e false 0]) fun i hi => get_push (h.within i hi)
  obtain ⟨s', L', F', g1, g2, g3⟩ := hos'.app [x] bytes (by simpa using hb) (by simpa using hl)
  have g4 := g3.len
  rw [List.length_append] at g4
  simp only [List.length_cons, List.length_nil] at g4
  refine ⟨s', L', F', ?_, g2, fun i hi hn => ?_, by omega, fun i hi => ?_⟩
  · rw [show srcOf (L ++ [LBlk.cells [x] e false 0]) 1 1 (Value.slice (some (Addr.mk (List.length L) 0 none)) 1 1) = some [x] from hsrc, obind_some, show Rlm.app (L ++ [LBlk.cells [x] e false 0]) e 1 bytes s 1 [x] = some (s', L') from g1, obind_some]
  · rw [g3.keep i (by rw [List.length_append]; omega) hn, get_push hi]
  · rcases g3.foot i hi with h | h
    · exact .inl h
    · rw [List.length_append] at h; exact .inr (by omega)
theorem byte_rd {L : LHeap} {q i : Nat} {bytes : List Nat} (h : L[q]? = some (.cells (bytes.map bV) 5 false 1)) (hi : i < bytes.length) : (cell L ⟨q, 0 + i * 1, none⟩).bind (asI .u8) = some ((bytes.getD i 0 : Nat) : Int) := by
  rw [cell_of h, Nat.zero_add, Nat.mul_one, List.getElem?_map, List.getElem?_eq_getElem hi, List.getD_eq_getElem?_getD, List.getElem?_eq_getElem hi]
  rfl
def wordA (bytes : List Nat) (p : Nat) : Nat := bytes.getD p 0 + bytes.getD (p + 1) 0 * 256 + bytes.getD (p + 2) 0 * 65536 + bytes.getD (p + 3) 0 * 16777216
theorem words_run {k j14 q : Nat} {l1 l2 : Sl} {n4 n7 : Int} {b6 : Bool} {bytes : List Nat} {fr N : Nat} (hbs : ∀ n ∈ bytes, n < 256) (hfr : fr + 64 ≤ bytes.length) (hlen : bytes.length ≤ 1000000) (hqN : q < N) :
    ∀ (t i j : Nat) (L : LHeap) (s : Sl) (ms F : List Nat), ms.length = i → i + t = 16 → t < j → OS L s (ms.map uV) 173 F → (∀ x ∈ F, N ≤ x) → N ≤ L.length → L[q]? = some (.cells (bytes.map bV) 5 false 1) →
    ∃ L' s' F' j', Pt.f96_l20 k j14 j l1 l2 ⟨some ⟨q, 0, none⟩, bytes.length, OPEN⟩ n4 (fr : Int) b6 n7 s ((fr + 4 * i : Nat) : Int) L =
      Pt.f96_l20 k j14 (j' + 1) l1 l2 ⟨some ⟨q, 0, none⟩, bytes.length, OPEN⟩ n4 (fr : Int) b6 n7 s' ((fr + 64 : Nat) : Int) L' ∧
      OS L' s' ((ms ++ (List.range' i t).map fun i => wordA bytes (fr + 4 * i)).map uV) 173 F' ∧ (∀ x ∈ F', N ≤ x) ∧ (∀ x, x < N → L'[x]? = L[x]?) ∧ L.length ≤ L'.length := by
  intro t
  induction t with
  | zero =>
    intro i j L s ms F hms hi hj hos hF hN hq
    obtain rfl : i = 16 := by omega
    exact ⟨L, s, F, j - 1, by rw [show j - 1 + 1 = j by omega], by simpa using hos, hF, fun _ _ => rfl, Nat.le_refl _⟩
  | succ t ih =>
    intro i j L s ms F hms hi hj hos hF hN hq
    obtain ⟨j, rfl⟩ : ∃ j', j = j' + 1 := ⟨j - 1, by omega⟩
    have hb : ∀ o, bytes.getD o 0 < 256 := fun o => getD_lt (by decide) hbs
    have hp : fr + 4 * i + 3 < bytes.length := by omega
    generalize hpp : fr + 4 * i = p at *
    have b0 := hb p
    have b1 := hb (p + 1)
    have b2 := hb (p + 2)
    have b3 := hb (p + 3)
    have hw : IntKind.wrap .u32 (IntKind.wrap .u32 (IntKind.wrap .u32 (IntKind.wrap .u32 ((bytes.getD p 0 : Nat) : Int) + IntKind.wrap .u32 (IntKind.wrap .u32 ((bytes.getD (p + 1) 0 : Nat) : Int) * 256)) +
        IntKind.wrap .u32 (IntKind.wrap .u32 ((bytes.getD (p + 2) 0 : Nat) : Int) * 65536)) + IntKind.wrap .u32 (IntKind.wrap .u32 ((bytes.getD (p + 3) 0 : Nat) : Int) * 16777216)) = ((wordA bytes p : Nat) : Int) := by
      unfold wordA
      generalize bytes.getD p 0 = c0 at *
      generalize bytes.getD (p + 1) 0 = c1 at *
      generalize bytes.getD (p + 2) 0 = c2 at *
      generalize bytes.getD (p + 3) 0 = c3 at *
      rw [wU32 (n := (c0 : Int)) (by omega) (by omega), wU32 (n := (c1 : Int)) (by omega) (by omega), wU32 (n := (c2 : Int)) (by omega) (by omega), wU32 (n := (c3 : Int)) (by omega) (by omega), wU32 (n := (c1 : Int) * 256) (by omega) (by omega),
        wU32 (n := (c2 : Int) * 65536) (by omega) (by omega), wU32 (n := (c3 : Int) * 16777216) (by omega) (by omega), wU32 (n := (c0 : Int) + (c1 : Int) * 256) (by omega) (by omega), wU32 (n := (c0 : Int) + (c1 : Int) * 256 + (c2 : Int) * 65536) (by omega) (by omega), wU32 (by omega) (by omega)]
      omega
    obtain ⟨s', L', F', g1, g2, g3, g4, g5⟩ := app_one hos (uV (wordA bytes p)) 4 (by simp [hms]; omega) (by simp [hms]; omega)
      fun x19 => Pt.f96_l20 k j14 j l1 l2 ⟨some ⟨q, 0, none⟩, bytes.length, OPEN⟩ n4 (fr : Int) b6 n7 x19.fst ((p + 4 : Nat) : Int) x19.snd
    have hq' : L'[q]? = some (.cells (bytes.map bV) 5 false 1) := by rw [g3 q (by omega) fun hf => by have := hF q hf; omega]; exact hq
    obtain ⟨L2, s2, F2, j2, r1, r2, r3, r4, r5⟩ := ih (i + 1) j L' s' (ms ++ [wordA bytes p]) F' (by simp [hms]) (by omega) (by omega) (by rw [List.map_append]; exact g2) (fun x hx => by
      rcases g5 x hx with h | h
      · exact hF x h
      · omega) (by omega) hq'
    refine ⟨L2, s2, F2, j2, ?_, ?_, r3, fun x hx => ?_, by omega⟩
    · rw [← r1, show fr + 4 * (i + 1) = p + 4 by omega, ← g1]
      rw [Pt.f96_l20_eq, wI64 (n := (fr : Int) + 64) (by omega) (by omega), decide_eq_true (by omega), lif_true, idx_of (show p < bytes.length by omega), obind_some, byte_rd hq (by omega), obind_some,
        wI64 (n := (p : Int) + 1) (by omega) (by omega), show (p : Int) + 1 = ((p + 1 : Nat) : Int) by omega, idx_of (show p + 1 < bytes.length by omega), obind_some, byte_rd hq (by omega), obind_some,
        wI64 (n := (p : Int) + 2) (by omega) (by omega), show (p : Int) + 2 = ((p + 2 : Nat) : Int) by omega, idx_of (show p + 2 < bytes.length by omega), obind_some, byte_rd hq (by omega), obind_some,
        wI64 (n := (p : Int) + 3) (by omega) (by omega), show (p : Int) + 3 = ((p + 3 : Nat) : Int) by omega, idx_of (show p + 3 < bytes.length by omega), obind_some, byte_rd hq (by omega), obind_some,
        hw, wI64 (n := (p : Int) + 4) (by omega) (by omega), show (p : Int) + 4 = ((p + 4 : Nat) : Int) by omega, size173, bytes173]
      rfl
    · rw [List.range'_succ, List.map_cons, hpp]
      rw [List.append_assoc] at r2
      exact r2
    · rw [r4 x hx, g3 x (by omega) fun hf => by have := hF x hf; omega]
end Go.Proofs.YtffcfaabjodpcaaGreatDoor
end

section
set_option maxRecDepth 100000
namespace Go.Proofs.YtffcfaabjodpcaaGreatDoor
open Go Go.Rlm
theorem OS.at {L : LHeap} {s : Sl} {vs : List Value} {e : TypeId} {F : List Nat} (h : OS L s vs e F) (hne : vs ≠ []) : ∃ c, s = ⟨some ⟨c, 0, none⟩, vs.length, OPEN⟩ ∧ L[c]? = some (.cells vs e false 1) ∧ F = [c] := by
  rcases h with ⟨_, h, _⟩ | h
  · exact absurd h hne
  · exact h
theorem H32_self {L : LHeap} {q : Nat} {ms : List Nat} (h : L[q]? = some (.cells (ms.map uV) 173 false 1)) : H32 L q ms = L := by
  have hq := get_lt h
  rw [List.getElem?_eq_getElem hq] at h
  injection h with h
  unfold H32
  rw [← h]
  exact List.set_getElem_self _
theorem xor_top {a : Nat} (ha : a < 4294967296) : bitop .xor .u32 (a : Int) 4294967295 = ((a ^^^ 4294967295 : Nat) : Int) := bitop_xor (b := 4294967295) ha (by decide)
theorem app_fresh {L : LHeap} {vs : List Value} (hv : vs.length = 8) : Rlm.app (L ++ [LBlk.cells [] 173 false 0]) 173 1 4 ⟨some ⟨L.length, 0, none⟩, 0, 0⟩ 8 vs =
    some (⟨some ⟨L.length + 1, 0, none⟩, 8, OPEN⟩, (L ++ [LBlk.cells [] 173 false 0]) ++ [LBlk.cells vs 173 false 1]) := by
  have h : (L ++ [LBlk.cells [] 173 false 0]).length = L.length + 1 := by simp
  rw [← h]
  rfl
theorem block_join {k j14 j q1 q2 fr gone N : Nat} {l3 : Sl} {n4 : Int} {last : Bool} {L : LHeap} {s : Sl} {h m F : List Nat} (hN : N ≤ L.length) (h1N : q1 < N) (h2N : q2 < N) (h12 : q1 ≠ q2)
    (hfr : fr ≤ 1000000) (hgone : gone ≤ 1000000) (h1 : L[q1]? = some (.cells (ivS.map uV) 173 false 1)) (h2 : L[q2]? = some (.cells (h.map uV) 173 false 1)) (hhl : h.length = 8) (hhs : ∀ n ∈ h, n < 4294967296)
    (hm : OS L s (m.map uV) 173 F) (hml : m.length = 16) (hms : ∀ n ∈ m, n < 4294967296) (hF : ∀ x ∈ F, N ≤ x) (hk : 11 ≤ k) :
    ∃ L', Pt.f96_l20 k j14 (j + 1) ⟨some ⟨q1, 0, none⟩, 8, OPEN⟩ ⟨some ⟨q2, 0, none⟩, 8, OPEN⟩ l3 n4 (fr : Int) last (gone : Int) s ((fr + 64 : Nat) : Int) L =
      Pt.f96_l14 k j14 ⟨some ⟨q1, 0, none⟩, 8, OPEN⟩ ⟨some ⟨q2, 0, none⟩, 8, OPEN⟩ l3 n4 ((fr + 64 : Nat) : Int) L' ∧
      L'[q2]? = some (.cells ((endS h (roundsS m (startS h gone last))).map uV) 173 false 1) ∧ (∀ x, x < N → x ≠ q2 → L'[x]? = L[x]?) ∧ L.length ≤ L'.length := by
  obtain ⟨qm, rfl, hmq, rfl⟩ := OS.at hm (by intro e; rw [List.map_eq_nil_iff] at e; rw [e] at hml; cases hml)
  have hqmN := hF qm (by simp)
  have hqml : qm < L.length := get_lt hmq
  rw [List.length_map, hml]
  -- a copy of the numbers
  have hos2 : OS L ⟨some ⟨q2, 0, none⟩, 8, OPEN⟩ (h.map uV) 173 [q2] := .inr ⟨q2, by rw [List.length_map, hhl], h2, rfl⟩
  have hos2' := hos2.mono (L' := L ++ [LBlk.cells [] 173 false 0]) fun i hi => get_push (hos2.within i hi)
  have s1 : srcOf (L ++ [LBlk.cells [] 173 false 0]) 1 8 (Value.slice (some ⟨q2, 0, none⟩) 8 OPEN) = some (h.map uV) := hos2'.src
  have a1 := app_fresh (L := L) (vs := h.map uV) (by rw [List.length_map, hhl])
  generalize hL1 : (L ++ [LBlk.cells [] 173 false 0]) ++ [LBlk.cells (h.map uV) 173 false 1] = L1 at a1
  have e1 : ∀ i, i < L.length → L1[i]? = L[i]? := fun i hi => by rw [← hL1, List.append_assoc]; exact get_push hi
  have n1 : L1.length = L.length + 2 := by rw [← hL1]; simp
  have hosv : OS L1 ⟨some ⟨L.length + 1, 0, none⟩, 8, OPEN⟩ (h.map uV) 173 [L.length + 1] := .inr ⟨L.length + 1, by rw [List.length_map, hhl], by rw [← hL1]; rw [show L.length + 1 = (L ++ [LBlk.cells [] 173 false 0]).length by simp]; exact get_new, rfl⟩
  have hos1 : OS L1 ⟨some ⟨q1, 0, none⟩, 8, OPEN⟩ (ivS.map uV) 173 [q1] := .inr ⟨q1, rfl, by rw [e1 q1 (by omega)]; exact h1, rfl⟩
  have s2 : srcOf L1 1 8 (Value.slice (some ⟨q1, 0, none⟩) 8 OPEN) = some (ivS.map uV) := hos1.src
  obtain ⟨s3, L3, F3, a2, g2, g3⟩ := hosv.app (ivS.map uV) 4 (by rw [List.length_map, List.length_map, hhl]; decide) (by rw [List.length_map, List.length_map, hhl]; decide)
  have a2 : Rlm.app L1 173 1 4 ⟨some ⟨L.length + 1, 0, none⟩, 8, OPEN⟩ 8 (ivS.map uV) = some (s3, L3) := a2
  rw [← List.map_append] at g2
  have hvl : (h ++ ivS).length = 16 := by rw [List.length_append, hhl]; rfl
  obtain ⟨q, rfl, hq, rfl⟩ := OS.at g2 (by intro e; rw [List.map_eq_nil_iff] at e; rw [e] at hvl; cases hvl)
  rw [List.length_map, hvl] at a2
  have hqL : L.length < q := by
    rcases g3.foot q (by simp) with h | h
    · simp at h; omega
    · omega
  have e3 : ∀ i, i < L.length → L3[i]? = L[i]? := fun i hi => by rw [g3.keep i (by omega) (by simp; omega), e1 i hi]
  have n3 : L.length ≤ L3.length := by have := g3.len; omega
  have hq3 : q < L3.length := get_lt hq
  have hself : H32 L3 q (h ++ ivS) = L3 := H32_self hq
  -- the numbers' places
  have ivs : ∀ n ∈ ivS, n < 4294967296 := by decide
  have hvs : ∀ n ∈ h ++ ivS, n < 4294967296 := fun n hn => by
    rcases List.mem_append.1 hn with h | h
    · exact hhs n h
    · exact ivs n h
  have st : ∀ (i x : Nat) (b : List Nat), (h ++ b).set (8 + i) x = h ++ b.set i x := fun i x b => by rw [List.set_append_right _ _ (by omega), hhl, Nat.add_sub_cancel_left]
  have gt : ∀ (i : Nat) (b : List Nat), (h ++ b).getD (8 + i) 0 = b.getD i 0 := fun i b => by rw [List.getD_eq_getElem?_getD, List.getElem?_append_right (by omega), hhl, Nat.add_sub_cancel_left, List.getD_eq_getElem?_getD]
  have w1 : IntKind.wrap .u32 (Int.tmod (gone : Int) 4294967296) = ((gone % 4294967296 : Nat) : Int) := by
    rw [show (4294967296 : Int) = ((4294967296 : Nat) : Int) from rfl, ← Int.ofNat_tmod, wU32 (by omega) (by omega)]
  have w2 : IntKind.wrap .u32 (IntKind.wrap .u64 (Int.tdiv (gone : Int) 4294967296)) = ((gone / 4294967296 % 4294967296 : Nat) : Int) := by
    rw [show (4294967296 : Int) = ((4294967296 : Nat) : Int) from rfl, ← Int.ofNat_tdiv, show gone / 4294967296 = 0 by omega]
    rfl
  have r12 : (cell L3 ⟨q, 0 + 12 * 1, none⟩).bind (asI .u32) = some ((ivS.getD 4 0 : Nat) : Int) := by
    have := H32_rd (L := L3) (q := q) (i := 12) (ms := h ++ ivS) hq3 (by omega)
    rw [hself] at this
    rw [this, gt 4]
  have t12 : ∀ x : Nat, stores L3 ⟨q, 0 + 12 * 1, none⟩ [.int .u32 (x : Int)] = some (H32 L3 q (h ++ ivS.set 4 x)) := fun x => by
    have := H32_st (L := L3) (q := q) (i := 12) (v := x) (ms := h ++ ivS) hq3 (by omega)
    rw [hself] at this
    rw [this, st 4]
  have r13 : ∀ x : Nat, (cell (H32 L3 q (h ++ ivS.set 4 x)) ⟨q, 0 + 13 * 1, none⟩).bind (asI .u32) = some ((ivS.getD 5 0 : Nat) : Int) := fun x => by
    rw [H32_rd hq3 (by rw [List.length_append, List.length_set, hhl]; decide), gt 5]
    rfl
  have t13 : ∀ x y : Nat, stores (H32 L3 q (h ++ ivS.set 4 x)) ⟨q, 0 + 13 * 1, none⟩ [.int .u32 (y : Int)] = some (H32 L3 q (h ++ (ivS.set 4 x).set 5 y)) := fun x y => by
    rw [H32_st hq3 (by rw [List.length_append, List.length_set, hhl]; decide), st 5]
  have r14 : ∀ x y : Nat, (cell (H32 L3 q (h ++ (ivS.set 4 x).set 5 y)) ⟨q, 0 + 14 * 1, none⟩).bind (asI .u32) = some ((ivS.getD 6 0 : Nat) : Int) := fun x y => by
    rw [H32_rd hq3 (by rw [List.length_append, List.length_set, List.length_set, hhl]; decide), gt 6]
    rfl
  have t14 : ∀ x y z : Nat, stores (H32 L3 q (h ++ (ivS.set 4 x).set 5 y)) ⟨q, 0 + 14 * 1, none⟩ [.int .u32 (z : Int)] = some (H32 L3 q (h ++ ((ivS.set 4 x).set 5 y).set 6 z)) := fun x y z => by
    rw [H32_st hq3 (by rw [List.length_append, List.length_set, List.length_set, hhl]; decide), st 6]
  have hstart : startS h gone last = h ++ (((ivS.set 4 (ivS.getD 4 0 ^^^ gone % 4294967296)).set 5 (ivS.getD 5 0 ^^^ gone / 4294967296 % 4294967296)).set 6 (if last then ivS.getD 6 0 ^^^ 4294967295 else ivS.getD 6 0)) := rfl
  have l4 : ivS.getD 4 0 < 4294967296 := by decide
  have l5 : ivS.getD 5 0 < 4294967296 := by decide
  have l6 : ivS.getD 6 0 < 4294967296 := by decide
  have hsl : (startS h gone last).length = 16 := by rw [hstart, List.length_append, List.length_set, List.length_set, List.length_set, hhl]; rfl
  have hss : ∀ n ∈ startS h gone last, n < 4294967296 := by
    rw [hstart]
    intro n hn
    rcases List.mem_append.1 hn with hn | hn
    · exact hhs n hn
    · refine set_all (set_all (set_all ivs (xor_lt l4 (Nat.mod_lt _ (by decide)))) (xor_lt l5 (Nat.mod_lt _ (by decide)))) ?_ n hn
      split
      · exact xor_lt l6 (by decide)
      · exact l6
  -- the rounds
  have tail : ∀ v, v = startS h gone last → ∃ L', Pt.f96_l30 k j14 k ⟨some ⟨q1, 0, none⟩, 8, OPEN⟩ ⟨some ⟨q2, 0, none⟩, 8, OPEN⟩ l3 n4 (fr : Int) ⟨some ⟨qm, 0, none⟩, 16, OPEN⟩ ⟨some ⟨q, 0, none⟩, 16, OPEN⟩
      ⟨some ⟨(H32 L3 q v).length, 0, none⟩, 10, 10⟩ 0 (H32 L3 q v ++ [rowsC]) = Pt.f96_l14 k j14 ⟨some ⟨q1, 0, none⟩, 8, OPEN⟩ ⟨some ⟨q2, 0, none⟩, 8, OPEN⟩ l3 n4 ((fr + 64 : Nat) : Int) L' ∧
      L'[q2]? = some (.cells ((endS h (roundsS m (startS h gone last))).map uV) 173 false 1) ∧ (∀ x, x < N → x ≠ q2 → L'[x]? = L[x]?) ∧ L.length ≤ L'.length := by
    rintro v rfl
    have x1 : H32 L3 q (startS h gone last) ++ [rowsC] = H32 (L3 ++ [rowsC]) q (startS h gone last) := by unfold H32; rw [List.set_append_left _ _ hq3]
    have x2 : (H32 L3 q (startS h gone last)).length = L3.length := by unfold H32; rw [List.length_set]
    rw [x1, x2]
    have k1 := rounds_run (k := k) (j14 := j14) (q := q) (qm := qm) (p := L3.length) (l1 := ⟨some ⟨q1, 0, none⟩, 8, OPEN⟩) (l2 := ⟨some ⟨q2, 0, none⟩, 8, OPEN⟩) (l3 := l3) (n4 := n4) (n5 := (fr : Int)) (L := L3 ++ [rowsC]) (m := m)
      (by rw [List.length_append]; omega) (by omega) (by rw [get_push (by omega), e3 qm hqml]; exact hmq) hml hms get_new (by omega) 10 0 k (startS h gone last) hsl hss (by omega) (by omega)
    rw [show ((0 : Nat) : Int) = 0 from rfl, List.drop_zero] at k1
    rw [k1]
    obtain ⟨vl, vs⟩ := refrounds_ok (m := m) hss hsl
    show ∃ L', Pt.f96_l42 k j14 k _ _ _ _ _ _ 0 (H32 (L3 ++ [rowsC]) q (roundsS m (startS h gone last))) = _ ∧ _
    generalize roundsS m (startS h gone last) = vv at vl vs
    have hH2 : (H32 (L3 ++ [rowsC]) q vv)[q2]? = some (.cells (h.map uV) 173 false 1) := by unfold H32; rw [get_set_ne (by omega), get_push (by omega), e3 q2 (by omega)]; exact h2
    have hHq : (H32 (L3 ++ [rowsC]) q vv)[q]? = some (.cells (vv.map uV) 173 false 1) := H32_get (by rw [List.length_append]; omega)
    have hlen6 : (H32 (L3 ++ [rowsC]) q vv).length = L3.length + 1 := by unfold H32; rw [List.length_set, List.length_append]; rfl
    have k2 := end_run (k := k) (j14 := j14) (qh := q2) (q := q) (l1 := ⟨some ⟨q1, 0, none⟩, 8, OPEN⟩) (l3 := l3) (n4 := n4) (n5 := (fr : Int)) (L := H32 (L3 ++ [rowsC]) q vv) (h := h) (v := vv) (by omega) (by omega) hHq vl vs hhl hhs 8 0 k (by omega) (by omega)
    rw [List.take_zero, List.drop_zero, List.nil_append, H32_self hH2, show ((0 : Nat) : Int) = 0 from rfl, wI64 (n := (fr : Int) + 64) (by omega) (by omega), show (fr : Int) + 64 = ((fr + 64 : Nat) : Int) by omega] at k2
    refine ⟨_, k2, H32_get (by omega), fun x hx hx2 => ?_, ?_⟩
    · unfold H32
      rw [get_set_ne (Ne.symm hx2), get_set_ne (by omega), get_push (by omega), e3 x (by omega)]
    · unfold H32
      rw [List.length_set, List.length_set, List.length_append]; omega
  rw [Pt.f96_l20_eq, wI64 (n := (fr : Int) + 64) (by omega) (by omega), decide_eq_false (by omega), lif_false, size173, bytes173]
  simp only
  rw [s1, obind_some, a1, obind_some]
  simp only
  rw [s2, obind_some, a2, obind_some]
  simp only
  rw [show (12 : Int) = ((12 : Nat) : Int) from rfl, idx_of (show 12 < 16 by omega), obind_some, r12, obind_some, obind_some, w1, bitop_xor l4 (Nat.mod_lt _ (by decide)), t12, obind_some,
    show (13 : Int) = ((13 : Nat) : Int) from rfl, idx_of (show 13 < 16 by omega), obind_some, r13, obind_some, obind_some, w2, bitop_xor l5 (Nat.mod_lt _ (by decide)), t13, obind_some]
  cases last with
  | true =>
    rw [lif_true, show (14 : Int) = ((14 : Nat) : Int) from rfl, idx_of (show 14 < 16 by omega), obind_some, r14, obind_some, obind_some, xor_top l6, t14, obind_some]
    exact tail _ rfl
  | false =>
    rw [lif_false]
    exact tail _ rfl
end Go.Proofs.YtffcfaabjodpcaaGreatDoor
end

section
set_option maxRecDepth 100000
namespace Go.Proofs.YtffcfaabjodpcaaGreatDoor
open Go Go.Rlm
/-- More behind a slice that somebody owns, by way of a literal. -/
theorem app_lit {L : LHeap} {s : Sl} {vs : List Value} {e : TypeId} {F : List Nat} (h : OS L s vs e F) (xs : List Value) (n : Nat) (hn : xs.length = n) (bytes : Nat) (hb : (vs.length + n) * bytes ≤ 2 ^ 47) (hl : vs.length + n ≤ 2 ^ 62) (K : Sl × LHeap → R) :
    ∃ s' L' F', (obind (srcOf (L ++ [LBlk.cells xs e false 0]) 1 n (Value.slice (some (Addr.mk (List.length L) 0 none)) n n)) fun y => obind (Rlm.app (L ++ [LBlk.cells xs e false 0]) e 1 bytes s n y) K) = K (s', L') ∧
      OS L' s' (vs ++ xs) e F' ∧ (∀ i, i < L.length → i ∉ F → L'[i]? = L[i]?) ∧ L.length ≤ L'.length ∧ (∀ i ∈ F', i ∈ F ∨ L.length ≤ i) := by
  have hw : WS (L ++ [LBlk.cells xs e false 0]) ⟨some ⟨L.length, 0, none⟩, n, n⟩ xs e [L.length] := WS.lit hn.symm
  have hsrc := hw.rd.src
  have hos' := h.mono (L' := L ++ [LBlk.cells xs e false 0]) fun i hi => get_push (h.within i hi)
  obtain ⟨s', L', F', g1, g2, g3⟩ := hos'.app xs bytes (by rw [hn]; exact hb) (by rw [hn]; exact hl)
  have g4 := g3.len
  rw [List.length_append] at g4
  simp only [List.length_cons, List.length_nil] at g4
  refine ⟨s', L', F', ?_, g2, fun i hi hni => ?_, by omega, fun i hi => ?_⟩
  · rw [show srcOf (L ++ [LBlk.cells xs e false 0]) 1 n (Value.slice (some (Addr.mk (List.length L) 0 none)) n n) = some xs from hsrc, obind_some]
    rw [hn] at g1
    rw [g1, obind_some]
  · rw [g3.keep i (by rw [List.length_append]; omega) hni, get_push hi]
  · rcases g3.foot i hi with h | h
    · exact .inl h
    · rw [List.length_append] at h; exact .inr (by omega)
theorem le4_ok {n : Nat} (hn : n < 4294967296) :
    [Value.int .u8 (IntKind.wrap .u8 (Int.tmod (n : Int) 256)), Value.int .u8 (IntKind.wrap .u8 (Int.tmod (IntKind.wrap .u32 (Int.tdiv (n : Int) 256)) 256)), Value.int .u8 (IntKind.wrap .u8 (Int.tmod (IntKind.wrap .u32 (Int.tdiv (n : Int) 65536)) 256)),
      Value.int .u8 (IntKind.wrap .u8 (IntKind.wrap .u32 (Int.tdiv (n : Int) 16777216)))] = (le4S n).map bV := by
  have d : ∀ m : Nat, Int.tdiv (n : Int) (m : Int) = ((n / m : Nat) : Int) := fun m => (Int.ofNat_tdiv n m).symm
  have r : ∀ a : Nat, Int.tmod (a : Int) 256 = ((a % 256 : Nat) : Int) := fun a => (Int.ofNat_tmod a 256).symm
  have l1 : n / 256 < 4294967296 := Nat.lt_of_le_of_lt (Nat.div_le_self _ _) hn
  have l2 : n / 65536 < 4294967296 := Nat.lt_of_le_of_lt (Nat.div_le_self _ _) hn
  have l3 : n / 16777216 < 4294967296 := Nat.lt_of_le_of_lt (Nat.div_le_self _ _) hn
  have e1 := d 256
  have e2 := d 65536
  have e3 := d 16777216
  have h3 : n / 16777216 < 256 := by omega
  rw [show ((256 : Nat) : Int) = 256 from rfl] at e1
  rw [show ((65536 : Nat) : Int) = 65536 from rfl] at e2
  rw [show ((16777216 : Nat) : Int) = 16777216 from rfl] at e3
  rw [e1, e2, e3, wU32 (n := ((n / 256 : Nat) : Int)) (by omega) (by omega), wU32 (n := ((n / 65536 : Nat) : Int)) (by omega) (by omega), wU32 (n := ((n / 16777216 : Nat) : Int)) (by omega) (by omega), r, r, r,
    wU8 (n := ((n % 256 : Nat) : Int)) (by omega) (by omega), wU8 (n := ((n / 256 % 256 : Nat) : Int)) (by omega) (by omega), wU8 (n := ((n / 65536 % 256 : Nat) : Int)) (by omega) (by omega), wU8 (n := ((n / 16777216 : Nat) : Int)) (by omega) (by omega)]
  unfold le4S
  rw [show n / 16777216 % 256 = n / 16777216 from Nat.mod_eq_of_lt h3]
  rfl
theorem le4_small (h : List Nat) : ∀ x ∈ (h.map le4S).flatten, x < 256 := by
  intro x hx
  obtain ⟨l, hl, hx⟩ := List.mem_flatten.1 hx
  obtain ⟨n, _, rfl⟩ := List.mem_map.1 hl
  simp only [le4S, List.mem_cons, List.not_mem_nil, or_false] at hx
  omega
theorem out_run {k q : Nat} {h : List Nat} (hhl : h.length = 8) (hhs : ∀ n ∈ h, n < 4294967296) : ∀ (t i j : Nat) (L : LHeap) (s : Sl) (F : List Nat), i + t = 8 → t < j → L[q]? = some (.cells (h.map uV) 173 false 1) → q ∉ F →
    OS L s ((((h.take i).map le4S).flatten).map bV) 5 F → ∃ L', Pt.f96_l47 k j ⟨some ⟨q, 0, none⟩, 8, OPEN⟩ s (i : Int) L = some (.ret (.tuple #[.string (strOf ((h.map le4S).flatten)), .int .i64 0]) L') := by
  intro t
  induction t with
  | zero =>
    intro i j L s F hi hj hq hqF hos
    obtain ⟨j, rfl⟩ : ∃ j', j = j' + 1 := ⟨j - 1, by omega⟩
    obtain rfl : i = 8 := by omega
    rw [List.take_of_length_le (by omega)] at hos
    rw [Pt.f96_l47_eq, decide_eq_false (by omega), lif_false, hos.bytes (le4_small h), obind_some]
    exact ⟨_, rfl⟩
  | succ t ih =>
    intro i j L s F hi hj hq hqF hos
    obtain ⟨j, rfl⟩ : ∃ j', j = j' + 1 := ⟨j - 1, by omega⟩
    have hi8 : i < 8 := by omega
    have hrd : (cell L ⟨q, 0 + i * 1, none⟩).bind (asI .u32) = some ((h.getD i 0 : Nat) : Int) := by rw [cell_of hq, Nat.zero_add, Nat.mul_one, u32_get (by omega)]
    have hlt : h.getD i 0 < 4294967296 := getD_lt (by decide) hhs
    have hll : ((((h.take i).map le4S).flatten).map bV).length ≤ 32 := by rw [List.length_map, flat4_length, List.length_take]; omega
    obtain ⟨s', L', F', g1, g2, g3, g4, g5⟩ := app_lit hos ((le4S (h.getD i 0)).map bV) 4 rfl 1 (by omega) (by omega) fun x12 => Pt.f96_l47 k j ⟨some ⟨q, 0, none⟩, 8, OPEN⟩ x12.fst ((i + 1 : Nat) : Int) x12.snd
    have hqL : q < L.length := get_lt hq
    have e : ((((h.take (i + 1)).map le4S).flatten).map bV) = ((((h.take i).map le4S).flatten).map bV) ++ (le4S (h.getD i 0)).map bV := by
      have hil : i < h.length := by omega
      rw [List.take_add_one, List.getD_eq_getElem?_getD, List.getElem?_eq_getElem hil]
      simp only [Option.toList_some, Option.getD_some, List.map_append, List.map_cons, List.map_nil, List.flatten_append, List.flatten_cons, List.flatten_nil, List.append_nil]
    obtain ⟨L2, r⟩ := ih (i + 1) j L' s' F' (by omega) (by omega) (by rw [g3 q hqL hqF]; exact hq) (fun hf => by rcases g5 q hf with h | h; exact hqF h; omega) (by rw [e]; exact g2)
    refine ⟨L2, ?_⟩
    rw [← r, ← g1]
    rw [Pt.f96_l47_eq, decide_eq_true (by omega), lif_true, idx_of hi8, obind_some, hrd, obind_some, obind_some, hrd, obind_some, obind_some, hrd, obind_some, obind_some, hrd, obind_some, le4_ok hlt, size5, bytes5, wI64 (n := (i : Int) + 1) (by omega) (by omega), show (i : Int) + 1 = ((i + 1 : Nat) : Int) by omega]
theorem pad_run {k P n3 : Nat} {l0 l1 : Sl} (hP : 0 < P) (hP64 : P % 64 = 0) (hPl : P ≤ 1000000) {N : Nat} : ∀ (t j : Nat) (L : LHeap) (s : Sl) (bs F : List Nat), bs.length + t = P → t < j → (∀ n, bs.length ≤ n → n < P → n = 0 ∨ n % 64 ≠ 0) →
    OS L s (bs.map bV) 5 F → (∀ x ∈ F, N ≤ x) → N ≤ L.length →
    ∃ L' s' F', Pt.f96_l11 k j l0 l1 s (n3 : Int) L = Pt.f96_l14 k k l0 l1 s' (n3 : Int) 0 L' ∧ OS L' s' ((bs ++ List.replicate t 0).map bV) 5 F' ∧ (∀ x ∈ F', N ≤ x) ∧ (∀ x, x < N → L'[x]? = L[x]?) ∧ L.length ≤ L'.length := by
  intro t
  induction t with
  | zero =>
    intro j L s bs F ht hj hn hos hF hN
    obtain ⟨j, rfl⟩ : ∃ j', j = j' + 1 := ⟨j - 1, by omega⟩
    have hsn : s.n = P := by rw [hos.len, List.length_map]; omega
    refine ⟨L, s, F, ?_, by simpa using hos, hF, fun _ _ => rfl, Nat.le_refl _⟩
    rw [Pt.f96_l11_eq, hsn, show ((P : Int) == 0) = false by simp; omega, lif_false]
    rw [show Int.tmod (P : Int) 64 = ((P % 64 : Nat) : Int) from (Int.ofNat_tmod P 64).symm, hP64]
    rfl
  | succ t ih =>
    intro j L s bs F ht hj hn hos hF hN
    obtain ⟨j, rfl⟩ : ∃ j', j = j' + 1 := ⟨j - 1, by omega⟩
    have hsn : s.n = bs.length := by rw [hos.len, List.length_map]
    obtain ⟨s', L', F', g1, g2, g3, g4, g5⟩ := app_one hos (bV 0) 1 (by rw [List.length_map]; omega) (by rw [List.length_map]; omega) fun x5 => Pt.f96_l11 k j l0 l1 x5.fst (n3 : Int) x5.snd
    obtain ⟨L2, s2, F2, r1, r2, r3, r4, r5⟩ := ih j L' s' (bs ++ [0]) F' (by simp; omega) (by omega) (fun n h1 h2 => hn n (by simp at h1; omega) h2) (by rw [List.map_append]; exact g2) (fun x hx => by
      rcases g5 x hx with h | h
      · exact hF x h
      · omega) (by omega)
    refine ⟨L2, s2, F2, ?_, ?_, r3, fun x hx => by rw [r4 x hx, g3 x (by omega) fun hf => by have := hF x hf; omega], by omega⟩
    · rw [← r1, ← g1]
      rw [Pt.f96_l11_eq, hsn, size5, bytes5]
      rcases hn bs.length (Nat.le_refl _) (by omega) with h0 | h0
      · rw [show ((bs.length : Int) == 0) = true from beq_iff_eq.2 (by omega), lif_true]
        rfl
      · by_cases hz : bs.length = 0
        · rw [show ((bs.length : Int) == 0) = true from beq_iff_eq.2 (by omega), lif_true]
          rfl
        · rw [show ((bs.length : Int) == 0) = false from beq_eq_false_iff_ne.2 (by omega), lif_false, show Int.tmod (bs.length : Int) 64 = ((bs.length % 64 : Nat) : Int) from (Int.ofNat_tmod bs.length 64).symm, show (((bs.length % 64 : Nat) : Int) != 0) = true from bne_iff_ne.2 (by omega), lif_true]
          rfl
    · rw [List.replicate_succ, ← List.append_cons bs 0 (List.replicate t 0)] at *
      exact r2
end Go.Proofs.YtffcfaabjodpcaaGreatDoor
end

section
set_option maxRecDepth 100000
namespace Go.Proofs.YtffcfaabjodpcaaGreatDoor
open Go Go.Rlm
def wordsA (bytes : List Nat) (fr : Nat) : List Nat := (List.range' 0 16).map fun i => wordA bytes (fr + 4 * i)
/-- The blocks, one behind the other. -/
def refB (bytes : List Nat) (total : Nat) : Nat → List Nat → Nat → List Nat
  | 0, h, _ => h
  | t + 1, h, fr => refB bytes total t (endS h (roundsS (wordsA bytes fr) (startS h (min (fr + 64) total) (decide (bytes.length ≤ fr + 64))))) (fr + 64)
theorem refword_lt {bytes : List Nat} (hb : ∀ n ∈ bytes, n < 256) (p : Nat) : wordA bytes p < 4294967296 := by
  have g : ∀ o, bytes.getD o 0 < 256 := fun o => getD_lt (by decide) hb
  have b0 := g p
  have b1 := g (p + 1)
  have b2 := g (p + 2)
  have b3 := g (p + 3)
  unfold wordA
  omega
theorem refend_small {h v : List Nat} (hh : ∀ n ∈ h, n < 4294967296) (hv : ∀ n ∈ v, n < 4294967296) : ∀ n ∈ endS h v, n < 4294967296 := by
  intro n hn
  unfold endS at hn
  obtain ⟨i, _, rfl⟩ := List.mem_map.1 hn
  exact xor_lt (xor_lt (getD_lt (by decide) hh) (getD_lt (by decide) hv)) (getD_lt (by decide) hv)
theorem refstart_ok {h : List Nat} (hl : h.length = 8) (hh : ∀ n ∈ h, n < 4294967296) (gone : Nat) (last : Bool) : (startS h gone last).length = 16 ∧ ∀ n ∈ startS h gone last, n < 4294967296 := by
  have ivs : ∀ n ∈ ivS, n < 4294967296 := by decide
  have l4 : ivS.getD 4 0 < 4294967296 := by decide
  have l5 : ivS.getD 5 0 < 4294967296 := by decide
  have l6 : ivS.getD 6 0 < 4294967296 := by decide
  unfold startS
  refine ⟨by rw [List.length_append, List.length_set, List.length_set, List.length_set, hl]; rfl, fun n hn => ?_⟩
  rcases List.mem_append.1 hn with hn | hn
  · exact hh n hn
  · refine set_all (set_all (set_all ivs (xor_lt l4 (Nat.mod_lt _ (by decide)))) (xor_lt l5 (Nat.mod_lt _ (by decide)))) ?_ n hn
    split
    · exact xor_lt l6 (by decide)
    · exact l6
theorem blocks_run {k q1 q2 q3 N total : Nat} {bytes : List Nat} (hbs : ∀ n ∈ bytes, n < 256) (hlen : bytes.length ≤ 1000000) (htot : total ≤ 1000000) (hk : 20 ≤ k) (h1N : q1 < N) (h2N : q2 < N) (h3N : q3 < N) (h12 : q1 ≠ q2) (h23 : q3 ≠ q2) :
    ∀ (t fr j : Nat) (L : LHeap) (h : List Nat), fr + 64 * t = bytes.length → t < j → N ≤ L.length → L[q1]? = some (.cells (ivS.map uV) 173 false 1) → L[q2]? = some (.cells (h.map uV) 173 false 1) → L[q3]? = some (.cells (bytes.map bV) 5 false 1) →
      h.length = 8 → (∀ n ∈ h, n < 4294967296) →
    ∃ L', Pt.f96_l14 k j ⟨some ⟨q1, 0, none⟩, 8, OPEN⟩ ⟨some ⟨q2, 0, none⟩, 8, OPEN⟩ ⟨some ⟨q3, 0, none⟩, bytes.length, OPEN⟩ (total : Int) (fr : Int) L = Pt.f96_l47 k k ⟨some ⟨q2, 0, none⟩, 8, OPEN⟩ ⟨none, 0, 0⟩ 0 L' ∧
      L'[q2]? = some (.cells ((refB bytes total t h fr).map uV) 173 false 1) ∧ (refB bytes total t h fr).length = 8 ∧ ∀ n ∈ refB bytes total t h fr, n < 4294967296 := by
  intro t
  induction t with
  | zero =>
    intro fr j L h hfr hj hN h1 h2 h3 hhl hhs
    obtain ⟨j, rfl⟩ : ∃ j', j = j' + 1 := ⟨j - 1, by omega⟩
    rw [Pt.f96_l14_eq, decide_eq_false (by simp only; omega), lif_false]
    exact ⟨L, rfl, h2, hhl, hhs⟩
  | succ t ih =>
    intro fr j L h hfr hj hN h1 h2 h3 hhl hhs
    obtain ⟨j, rfl⟩ : ∃ j', j = j' + 1 := ⟨j - 1, by omega⟩
    have hgone : IntKind.wrap .u64 (if false = true then if (total : Int) > ((fr + 64 : Nat) : Int) then (total : Int) else ((fr + 64 : Nat) : Int) else if (total : Int) < ((fr + 64 : Nat) : Int) then (total : Int) else ((fr + 64 : Nat) : Int)) = ((min (fr + 64) total : Nat) : Int) := by
      rw [if_neg (by decide)]
      by_cases hc : (total : Int) < ((fr + 64 : Nat) : Int)
      · rw [if_pos hc, Nat.min_eq_right (by omega), wU64 (by omega) (by omega)]
      · rw [if_neg hc, Nat.min_eq_left (by omega), wU64 (by omega) (by omega)]
    have hlast : decide (((fr + 64 : Nat) : Int) ≥ (bytes.length : Int)) = decide (bytes.length ≤ fr + 64) := by
      by_cases hc : bytes.length ≤ fr + 64
      · rw [decide_eq_true hc, decide_eq_true (by omega)]
      · rw [decide_eq_false hc, decide_eq_false (by omega)]
    obtain ⟨L1, s1, F1, j1, r1, r2, r3, r4, r5⟩ := words_run (k := k) (j14 := j) (q := q3) (l1 := ⟨some ⟨q1, 0, none⟩, 8, OPEN⟩) (l2 := ⟨some ⟨q2, 0, none⟩, 8, OPEN⟩) (n4 := (total : Int)) (n7 := ((min (fr + 64) total : Nat) : Int)) (b6 := decide (bytes.length ≤ fr + 64))
      (bytes := bytes) (fr := fr) (N := N) hbs (by omega) hlen h3N 16 0 k L ⟨none, 0, 0⟩ [] [] rfl rfl (by omega) (OS.nil _ _) (by simp) hN h3
    rw [List.nil_append] at r2
    have hws : ∀ n ∈ wordsA bytes fr, n < 4294967296 := fun n hn => by
      obtain ⟨i, _, rfl⟩ := List.mem_map.1 hn
      exact refword_lt hbs _
    obtain ⟨L2, b1, b2, b3, b4⟩ := block_join (k := k) (j14 := j) (j := j1) (q1 := q1) (q2 := q2) (fr := fr) (gone := min (fr + 64) total) (N := N) (l3 := ⟨some ⟨q3, 0, none⟩, bytes.length, OPEN⟩) (n4 := (total : Int)) (last := decide (bytes.length ≤ fr + 64)) (L := L1) (s := s1) (h := h) (m := wordsA bytes fr) (F := F1)
      (by omega) h1N h2N h12 (by omega) (by omega) (by rw [r4 q1 h1N]; exact h1) (by rw [r4 q2 h2N]; exact h2) hhl hhs r2 (by simp [wordsA]) hws r3 (by omega)
    obtain ⟨sl, ss⟩ := refstart_ok hhl hhs (min (fr + 64) total) (decide (bytes.length ≤ fr + 64))
    obtain ⟨vl, vs⟩ := refrounds_ok (m := wordsA bytes fr) ss sl
    obtain ⟨L3, e1, e2, e3, e4⟩ := ih (fr + 64) j L2 _ (by omega) (by omega) (by omega) (by rw [b3 q1 h1N h12, r4 q1 h1N]; exact h1) b2 (by rw [b3 q3 h3N h23, r4 q3 h3N]; exact h3) (endS_length _ _) (refend_small hhs vs)
    refine ⟨L3, ?_, e2, e3, e4⟩
    rw [← e1, ← b1, ← r1]
    rw [Pt.f96_l14_eq, decide_eq_true (by simp only; omega), lif_true, wI64 (n := (fr : Int) + 64) (by omega) (by omega), show (fr : Int) + 64 = ((fr + 64 : Nat) : Int) by omega, hgone]
    simp only [hlast]
    rfl
end Go.Proofs.YtffcfaabjodpcaaGreatDoor
end

section
set_option maxRecDepth 100000
namespace Go.Proofs.YtffcfaabjodpcaaGreatDoor
open Go Go.Rlm
theorem getD_zeros (l : List Nat) (z j : Nat) : (l ++ List.replicate z 0).getD j 0 = l.getD j 0 := by
  rw [List.getD_eq_getElem?_getD, List.getD_eq_getElem?_getD]
  by_cases h : j < l.length
  · rw [List.getElem?_append_left h]
  · rw [List.getElem?_append_right (by omega), List.getElem?_eq_none (show l.length ≤ j by omega)]
    by_cases h2 : j - l.length < z
    · rw [List.getElem?_replicate_of_lt h2]; rfl
    · rw [List.getElem?_eq_none (by rw [List.length_replicate]; omega)]
theorem getD_drop (l : List Nat) (a j : Nat) : (l.drop a).getD j 0 = l.getD (a + j) 0 := by
  rw [List.getD_eq_getElem?_getD, List.getD_eq_getElem?_getD, List.getElem?_drop]
theorem getD_take {l : List Nat} {a j : Nat} (h : j < a) : (l.take a).getD j 0 = l.getD j 0 := by
  rw [List.getD_eq_getElem?_getD, List.getD_eq_getElem?_getD, List.getElem?_take_of_lt h]
theorem wordsA_eq {bytes b : List Nat} {fr : Nat} (hb : ∀ j, j < 64 → b.getD j 0 = bytes.getD (fr + j) 0) : wordsA bytes fr = wordsS b := by
  unfold wordsA wordsS
  rw [List.range_eq_range']
  refine List.map_congr_left fun i hi => ?_
  have hi : i < 16 := by simpa using hi
  unfold wordA wordS
  rw [hb (4 * i) (by omega), hb (4 * i + 1) (by omega), hb (4 * i + 2) (by omega), hb (4 * i + 3) (by omega)]
  rfl
theorem refB_plain {s : List Nat} {z : Nat} {bytes : List Nat} (hby : bytes = s ++ List.replicate z 0) (hend : bytes.length < s.length + 64 ∨ s.length = 0 ∧ bytes.length = 64) :
    ∀ (fuel : Nat) (h : List Nat) (fr t : Nat), fr + 64 * t = bytes.length → 1 ≤ t → fr ≤ s.length → s.length - fr ≤ fuel →
      refB bytes s.length t h fr = lastS (addS fuel h (s.drop fr) fr).1 (addS fuel h (s.drop fr) fr).2.1 (addS fuel h (s.drop fr) fr).2.2 := by
  have hbl : s.length ≤ bytes.length := by rw [hby, List.length_append]; omega
  have last : ∀ (h : List Nat) (fr t : Nat), fr + 64 * t = bytes.length → 1 ≤ t → fr ≤ s.length → ¬ 64 < s.length - fr → refB bytes s.length t h fr = lastS h (s.drop fr) fr := by
    intro h fr t hfr ht hle hn
    obtain rfl : t = 1 := by omega
    unfold refB refB lastS takeS
    rw [List.length_drop, show fr + (s.length - fr) = s.length by omega, Nat.min_eq_right (by omega), decide_eq_true (by omega)]
    rw [wordsA_eq (b := s.drop fr ++ List.replicate (64 - (s.length - fr)) 0) fun j hj => by rw [getD_zeros, getD_drop, hby, getD_zeros]]
  intro fuel
  induction fuel with
  | zero =>
    intro h fr t hfr ht hle hf
    exact last h fr t hfr ht hle (by omega)
  | succ fuel ih =>
    intro h fr t hfr ht hle hf
    unfold addS
    rw [List.length_drop]
    by_cases hc : 64 < s.length - fr
    · rw [if_pos hc]
      obtain ⟨t, rfl⟩ : ∃ t', t = t' + 1 := ⟨t - 1, by omega⟩
      unfold refB
      rw [Nat.min_eq_left (by omega), decide_eq_false (by omega), wordsA_eq (b := (s.drop fr).take 64) fun j hj => by rw [getD_take hj, getD_drop, hby, getD_zeros], List.drop_drop]
      exact ih _ (fr + 64) t (by omega) (by omega) (by omega) (by omega)
    · rw [if_neg hc]
      exact last h fr t hfr ht hle hc
end Go.Proofs.YtffcfaabjodpcaaGreatDoor
end

section
set_option maxRecDepth 100000
namespace Go.Proofs.YtffcfaabjodpcaaGreatDoor
open Go Go.Rlm
theorem byteCells_nb (s : ByteArray) : byteCells (s.extract 0 s.size) = (nbS s).map bV := by
  have : s.extract 0 s.size = s := by
    apply ByteArray.ext
    rw [ByteArray.data_extract]
    exact Array.extract_size
  rw [this]
  unfold byteCells nbS
  rw [List.map_map]
  rfl
theorem sum_run {k : Nat} {s : ByteArray} (hs : s.size ≤ 60000) (hk : s.size + 100 ≤ k) : ∃ Y, Pt.f49 (k + 1 + 1 + 1) s [] = some (.ret (.string (blakeB s)) Y) := by
  -- the first numbers
  have hA : ([] ++ [firstC] ++ [LBlk.cells [] 173 false 0] : LHeap)[0]? = some (.cells (ivS.map uV) 173 false 1) := by unfold firstC; rfl
  have hosA : OS ([] ++ [firstC] ++ [LBlk.cells [] 173 false 0]) ⟨some ⟨0, 0, none⟩, 8, OPEN⟩ (ivS.map uV) 173 [0] := .inr ⟨0, rfl, hA, rfl⟩
  have sA : srcOf ([] ++ [firstC] ++ [LBlk.cells [] 173 false 0]) 1 8 (Value.slice (some ⟨0, 0, none⟩) 8 OPEN) = some (ivS.map uV) := hosA.src
  obtain ⟨B, hB⟩ : ∃ B : LHeap, B = [] ++ [firstC] ++ [LBlk.cells [] 173 false 0] ++ [LBlk.cells ([] ++ ivS.map uV) 173 false 1] := ⟨_, rfl⟩
  have hB2 : B[2]? = some (.cells (ivS.map uV) 173 false 1) := by rw [hB]; rfl
  have hB0 : B[0]? = some (.cells (ivS.map uV) 173 false 1) := by rw [hB]; unfold firstC; rfl
  have hBl : B.length = 3 := by rw [hB]; rfl
  have hself : H32 B 2 ivS = B := H32_self hB2
  have r0 : (cell B ⟨2, 0 + 0 * 1, none⟩).bind (asI .u32) = some ((ivS.getD 0 0 : Nat) : Int) := by
    have := H32_rd (L := B) (q := 2) (i := 0) (ms := ivS) (by omega) (by decide)
    rw [hself] at this
    exact this
  have t0 : stores B ⟨2, 0 + 0 * 1, none⟩ [.int .u32 ((ivS.getD 0 0 ^^^ 16842784 : Nat) : Int)] = some (H32 B 2 firstS) := by
    have := H32_st (L := B) (q := 2) (i := 0) (v := ivS.getD 0 0 ^^^ 16842784) (ms := ivS) (by omega) (by decide)
    rw [hself] at this
    exact this
  have hx : bitop BinOp.xor IntKind.u32 (bitop BinOp.xor IntKind.u32 ((ivS.getD 0 0 : Nat) : Int) 16842784) (IntKind.wrap IntKind.u32 (IntKind.wrap IntKind.i64 (256 * ((ByteArray.size ⟨#[]⟩ : Nat) : Int)))) = ((ivS.getD 0 0 ^^^ 16842784 : Nat) : Int) := by
    rw [show IntKind.wrap IntKind.u32 (IntKind.wrap IntKind.i64 (256 * ((ByteArray.size ⟨#[]⟩ : Nat) : Int))) = ((0 : Nat) : Int) from rfl, show (16842784 : Int) = ((16842784 : Nat) : Int) from rfl, bitop_xor (by decide) (by decide), bitop_xor (by decide) (by decide), Nat.xor_zero]
  -- the text
  obtain ⟨L5, hL5⟩ : ∃ L5 : LHeap, L5 = H32 B 2 firstS ++ [LBlk.cells (byteCells ⟨#[]⟩) 5 false 1] := ⟨_, rfl⟩
  have hl4 : (H32 B 2 firstS).length = 3 := by unfold H32; rw [List.length_set, hBl]
  have hL5l : L5.length = 4 := by rw [hL5, List.length_append, hl4]; rfl
  have hL50 : L5[0]? = some (.cells (ivS.map uV) 173 false 1) := by rw [hL5, get_push (by omega)]; unfold H32; rw [get_set_ne (by omega)]; exact hB0
  have hL52 : L5[2]? = some (.cells (firstS.map uV) 173 false 1) := by rw [hL5, get_push (by omega)]; exact H32_get (by omega)
  have hL53 : L5[3]? = some (.cells (([] : List Nat).map bV) 5 false 1) := by rw [hL5, show 3 = (H32 B 2 firstS).length from hl4.symm]; exact get_new
  have hos5 : OS L5 ⟨some ⟨3, 0, none⟩, 0, OPEN⟩ (([] : List Nat).map bV) 5 [3] := .inr ⟨3, rfl, hL53, rfl⟩
  have hnl : ((nbS s).map bV).length = s.size := by rw [List.length_map, nbS_length]
  obtain ⟨s6, L6, F6, g1, g2, g3⟩ := hos5.app ((nbS s).map bV) 1 (by rw [hnl]; simp; omega) (by rw [hnl]; simp; omega)
  rw [hnl] at g1
  rw [← List.map_append, List.nil_append] at g2
  have hF6 : ∀ x ∈ F6, 3 ≤ x := fun x hx => by
    rcases g3.foot x hx with h | h
    · simp at h; omega
    · omega
  have hL6l : 4 ≤ L6.length := by have := g3.len; omega
  have e6 : ∀ x, x < 3 → L6[x]? = L5[x]? := fun x hx => g3.keep x (by omega) (by simp; omega)
  have hsn : s6.n = s.size := by rw [g2.len, hnl]
  -- filled up
  obtain ⟨nb, hnb⟩ : ∃ nb, nb = if s.size = 0 then 1 else (s.size + 63) / 64 := ⟨_, rfl⟩
  have hn1 : 1 ≤ nb := by rw [hnb]; split <;> omega
  have hn2 : s.size ≤ 64 * nb := by rw [hnb]; split <;> omega
  have hn3 : 64 * nb < s.size + 64 ∨ s.size = 0 ∧ 64 * nb = 64 := by rw [hnb]; split <;> omega
  obtain ⟨L7, s7, F7, p1, p2, p3, p4, p5⟩ := pad_run (k := k + 1) (P := 64 * nb) (n3 := s.size) (l0 := ⟨some ⟨0, 0, none⟩, 8, OPEN⟩) (l1 := ⟨some ⟨2, 0, none⟩, 8, OPEN⟩) (by omega) (by omega) (by omega) (N := 3) (64 * nb - s.size) (k + 1) L6 s6 (nbS s) F6
    (by rw [nbS_length]; omega) (by omega) (fun m h1 h2 => by rw [nbS_length] at h1; omega) g2 hF6 (by omega)
  generalize hby : nbS s ++ List.replicate (64 * nb - s.size) 0 = bytes at p2
  have hbl : bytes.length = 64 * nb := by rw [← hby, List.length_append, nbS_length, List.length_replicate]; omega
  have hbs : ∀ n ∈ bytes, n < 256 := by
    rw [← hby]
    intro n hn
    rcases List.mem_append.1 hn with hn | hn
    · exact nbS_small s n hn
    · rw [(List.mem_replicate.1 hn).2]; decide
  obtain ⟨q3, rfl, hq3, rfl⟩ := OS.at p2 (by intro e; rw [List.map_eq_nil_iff] at e; rw [e] at hbl; simp at hbl; omega)
  rw [List.length_map] at p1
  have hq3N := p3 q3 (by simp)
  have fs : ∀ n ∈ firstS, n < 4294967296 := by decide
  obtain ⟨L8, b1, b2, b3, b4⟩ := blocks_run (k := k + 1) (q1 := 0) (q2 := 2) (q3 := q3) (N := L7.length) (total := s.size) (bytes := bytes) hbs (by omega) (by omega) (by omega) (by omega) (by omega) (get_lt hq3) (by omega) (by omega) nb 0 (k + 1) L7 firstS (by omega) (by omega) (Nat.le_refl _)
    (by rw [p4 0 (by omega), e6 0 (by omega)]; exact hL50) (by rw [p4 2 (by omega), e6 2 (by omega)]; exact hL52) hq3 rfl fs
  have hplain := refB_plain (s := nbS s) hby.symm (by rw [hbl, nbS_length]; exact hn3) (nbS s).length firstS 0 nb (by omega) hn1 (by omega) (by omega)
  rw [nbS_length] at hplain
  obtain ⟨L9, o1⟩ := out_run (k := k + 1) (q := 2) b3 b4 8 0 (k + 1) L8 ⟨none, 0, 0⟩ [] (by omega) (by omega) b2 (by simp) (OS.nil _ _)
  have hres : strOf ((refB bytes s.size nb firstS 0).map le4S).flatten = blakeB s := by
    unfold blakeB blakeS
    rw [hplain, List.drop_zero, nbS_length]
  rw [hres] at o1
  refine ⟨L9, ?_⟩
  rw [Pt.f49_eq, Pt.f96_eq, show decide (((ByteArray.size ⟨#[]⟩ : Nat) : Int) > 32) = false from rfl, lif_false, size173]
  rw [show List.length ([] : LHeap) = 0 from rfl, sA, obind_some]
  simp only
  rw [← hB, show List.length ([] ++ [firstC] ++ [LBlk.cells [] 173 false 0] : LHeap) = 2 from rfl, show Addr.add ⟨2, 0, none⟩ 0 = ⟨2, 0 + 0 * 1, none⟩ from rfl, r0, obind_some, hx, t0, obind_some, hl4, ← hL5]
  rw [Pt.f96_l7_eq, show decide (((ByteArray.size ⟨#[]⟩ : Nat) : Int) > 0) = false from rfl, lif_false, size5, bytes5, byteCells_nb]
  rw [show Rlm.app L5 5 1 1 ⟨some ⟨3, 0, none⟩, ByteArray.size ⟨#[]⟩, OPEN⟩ s.size ((nbS s).map bV) = some (s6, L6) from g1, obind_some]
  simp only
  rw [hsn, p1, show ((0 : Int)) = ((0 : Nat) : Int) from rfl, b1]
  rw [show ((0 : Nat) : Int) = 0 from rfl] at o1
  rw [o1, lbind_ret]
  rfl
theorem pureRefSum : PureOk globs Tryz.prog 49 blakeRP := by
  refine ⟨by decide, fun args L r0 r hr hreal => ?_⟩
  unfold blakeRP at hr
  split at hr
  case h_2 => cases hr
  rename_i s
  injection hr with hr
  subst hr
  obtain ⟨h1, rfl⟩ := gate_real hreal
  have h1 := Nat.le_of_ble_eq_true h1
  obtain ⟨Y, hrun⟩ := sum_run (k := 70000) h1 (by omega)
  exact canon_pure specPt X.mixed X.named Tryz.func49 rfl (by decide) (n := 70003) rfl hrun rfl
theorem specPj : SpecOk globs Tryz.prog Pj.T := .more pureRefSum specPt
end Go.Proofs.YtffcfaabjodpcaaGreatDoor
end

section
set_option maxRecDepth 100000
set_option linter.unusedVariables false
namespace Go.Proofs.YtffcfaabjodpcaaGreatDoor.Pj
open Go Go.Rlm
/-- hamper/hamperref26.ID -/
noncomputable def f19 (k : Nat) (s0 : ByteArray) (n1 : Int) (n2 : Int) (n3 : Int) (n4 : Int) (n5 : Int) (n6 : Int) : R :=
  lpure Tryz.prog T k 19
  [Value.agg #[Value.string s0, Value.int IntKind.i64 n1, Value.int IntKind.i64 n2, Value.int IntKind.i64 n3, Value.int IntKind.i64 n4, Value.int IntKind.i64 n5, Value.int IntKind.i64 n6]]
theorem f19_eq (k : Nat) (s0 : ByteArray) (n1 : Int) (n2 : Int) (n3 : Int) (n4 : Int) (n5 : Int) (n6 : Int) : f19 k s0 n1 n2 n3 n4 n5 n6 =
 lif (!placeB (Plc.mk s0 n1 n2 n3 n4 n5 n6)) (ok (Value.tuple #[Value.string (ByteArray.mk #[]), Value.int IntKind.i64 1]))
 (when (Nat.ble (ByteArray.size (nameS (Plc.mk s0 0 n2 n3 n4 n5 n6))) 60000)
 (obind (subS (blakeB (nameS (Plc.mk s0 0 n2 n3 n4 n5 n6))) none (some 16)) fun s7 => ok (Value.tuple #[Value.string s7, Value.int IntKind.i64 0]))) := by kernel_rfl
end Go.Proofs.YtffcfaabjodpcaaGreatDoor.Pj
end

section
set_option maxRecDepth 100000
namespace Go.Proofs.YtffcfaabjodpcaaGreatDoor
open Go Go.Rlm
theorem refid_ok (k : Nat) (p : Plc) : Pj.f19 k p.base p.idx p.k p.d p.r p.z p.m = ok (.tuple #[.string (idS p), .int .i64 (nameE p)]) := by
  rw [Pj.f19_eq]
  show lif (!placeB p) _ (when (Nat.ble (nameS { p with idx := 0 }).size 60000) (obind (subS (blakeB (nameS { p with idx := 0 })) none (some 16)) fun s7 => ok (.tuple #[.string s7, .int .i64 0]))) = _
  unfold idS nameE
  cases hp : placeB p with
  | false => rfl
  | true =>
    have := name_size (p := { p with idx := 0 })
    rw [Bool.not_true, lif_false, Nat.ble_eq_true_of_le (by omega), when_true, sub16, obind_some]
    rfl
theorem pureRefID : PureOk globs Tryz.prog 19 idP :=
  .runs (T := Pj.T) (n := 0) specPj X.mixed X.named (by decide) fun args L r0 r hr hreal => by
    unfold idP at hr
    split at hr
    case h_2 => cases hr
    injection hr with hr
    subst hr
    injection hreal with hreal
    subst hreal
    rename_i b i k d r z m
    exact ⟨_, rfl, rfl, rfl, refid_ok 0 ⟨b, i, k, d, r, z, m⟩⟩
theorem specPi : SpecOk globs Tryz.prog Pi.T := .more pureRefID specPj
end Go.Proofs.YtffcfaabjodpcaaGreatDoor
end

section
set_option maxRecDepth 100000
set_option linter.unusedVariables false
namespace Go.Proofs.YtffcfaabjodpcaaGreatDoor.Pi
open Go Go.Rlm
/-- hamper/hamperlaw26.SlicePlaces -/
noncomputable def f3 (k : Nat) (s0 : ByteArray) (n1 : Int) (n2 : Int) (n3 : Int) (n4 : Int) (n5 : Int) (n6 : Int) (s7 : ByteArray) : R :=
  lpure Tryz.prog T k 3
  [Value.agg #[Value.string s0, Value.int IntKind.i64 n1, Value.int IntKind.i64 n2, Value.int IntKind.i64 n3, Value.int IntKind.i64 n4, Value.int IntKind.i64 n5, Value.int IntKind.i64 n6],
    Value.string s7]
theorem f3_eq (k : Nat) (s0 : ByteArray) (n1 : Int) (n2 : Int) (n3 : Int) (n4 : Int) (n5 : Int) (n6 : Int) (s7 : ByteArray) : f3 k s0 n1 n2 n3 n4 n5 n6 s7 =
 lif (decide ((↑(ByteArray.size s0) : Int) > 300)) (ok (Value.bool true))
 (lif (decide ((↑(ByteArray.size s7) : Int) > 300)) (ok (Value.bool true))
 (when (Nat.ble (ByteArray.size s7) 1000000000000)
 (when (Nat.ble (ByteArray.size s7) 1000)
 (lif (ByteArray.toList (nameS (Plc.mk s0 n1 n2 n3 n4 n5 n6)) == ByteArray.toList (nameS (Plc.mk s0 n1 n2 n3 n4 n5 n6)))
 (lif (nameE (Plc.mk s0 n1 n2 n3 n4 n5 n6) == nameE (Plc.mk s0 n1 n2 n3 n4 n5 n6))
 (lif
 ((parseF s7).base == (parseF s7).base &&
 ((parseF s7).idx == (parseF s7).idx &&
 ((parseF s7).k == (parseF s7).k &&
 ((parseF s7).d == (parseF s7).d && ((parseF s7).r == (parseF s7).r && ((parseF s7).z == (parseF s7).z && ((parseF s7).m == (parseF s7).m && true))) && true))))
 (lif (parseE s7 == parseE s7)
 (lif (ByteArray.toList (idS (Plc.mk s0 n1 n2 n3 n4 n5 n6)) == ByteArray.toList (idS (Plc.mk s0 n1 n2 n3 n4 n5 n6)))
 (lif (nameE (Plc.mk s0 n1 n2 n3 n4 n5 n6) == nameE (Plc.mk s0 n1 n2 n3 n4 n5 n6))
 (when
 (same
 (Value.agg
 #[Value.string s0, Value.int IntKind.i64 n1, Value.int IntKind.i64 n2, Value.int IntKind.i64 n3, Value.int IntKind.i64 n4, Value.int IntKind.i64 n5,
 Value.int IntKind.i64 n6])
 (Value.agg
 #[Value.string s0, Value.int IntKind.i64 n1, Value.int IntKind.i64 n2, Value.int IntKind.i64 n3, Value.int IntKind.i64 n4, Value.int IntKind.i64 n5,
 Value.int IntKind.i64 n6]))
 (lif (placeB (Plc.mk s0 n1 n2 n3 n4 n5 n6) == placeB (Plc.mk s0 n1 n2 n3 n4 n5 n6)) (ok (Value.bool true)) (ok (Value.bool false))))
 (ok (Value.bool false)))
 (ok (Value.bool false)))
 (ok (Value.bool false)))
 (ok (Value.bool false)))
 (ok (Value.bool false)))
 (ok (Value.bool false)))))) := by kernel_rfl
end Go.Proofs.YtffcfaabjodpcaaGreatDoor.Pi
end

section
set_option maxRecDepth 100000
namespace Go.Proofs.YtffcfaabjodpcaaGreatDoor
open Go Go.Rlm
theorem places_ok (k : Nat) (p : Plc) (s : ByteArray) : Pi.f3 k p.base p.idx p.k p.d p.r p.z p.m s = ok (.bool true) := by
  rw [Pi.f3_eq]
  by_cases h1 : (p.base.size : Int) > 300
  · rw [decide_eq_true h1, lif_true]
  rw [decide_eq_false h1, lif_false]
  by_cases h2 : (s.size : Int) > 300
  · rw [decide_eq_true h2, lif_true]
  rw [decide_eq_false h2, lif_false, Nat.ble_eq_true_of_le (show s.size ≤ 1000000000000 by omega), when_true, Nat.ble_eq_true_of_le (show s.size ≤ 1000 by omega), when_true]
  have b : ∀ a : ByteArray, (a == a) = true := fun a => by rw [ba_beq, decide_eq_true rfl]
  simp only [beq_self_eq_true, b, Bool.and_self, lif_true, same_self, when_true]
end Go.Proofs.YtffcfaabjodpcaaGreatDoor
end

section
namespace Go.Rlm
open Go.Joins Go.ChangeShapes Go.WideShapes Go.RowKit Go.Deep
theorem array7 {α : Type} {cs : Array α} (h : cs.size = 7) : ∃ c0 c1 c2 c3 c4 c5 c6, cs = #[c0, c1, c2, c3, c4, c5, c6] := by
  obtain ⟨l⟩ := cs
  match l, h with
  | [c0, c1, c2, c3, c4, c5, c6], _ => exact ⟨c0, c1, c2, c3, c4, c5, c6, rfl⟩
/-- A struct of a text, two numbers and a struct of four numbers. -/
theorem open_place {H : Type} {enc : TypeId × Value → H} {P : Program} {w : World} {base : Nat} {spare : Nat → Bool} {held : Bool} {r : Reach} {b0 : Nat} {t tq ts ti : TypeId} {f0 f1 f2 f3 g0 g1 g2 g3 : Field} {v : Value} {d : DataW H} {p : List MemPlace}
    (hs : P.underlying t = some (.struct #[f0, f1, f2, f3])) (hq : P.underlying tq = some (.struct #[g0, g1, g2, g3])) (hS : P.underlying ts = some .string) (hi : P.underlying ti = some (.int .i64))
    (he : [f0.type, f1.type, f2.type, f3.type, g0.type, g1.type, g2.type, g3.type] = [ts, ti, ti, tq, ti, ti, ti, ti]) (ho : [f0.offset, f1.offset, f2.offset, f3.offset, g0.offset, g1.offset, g2.offset, g3.offset] = [0, 1, 2, 3, 0, 1, 2, 3])
    (hC : [P.cellsOf t, P.cellsOf ts, P.cellsOf ti, P.cellsOf tq] = [7, 1, 1, 4]) (hv : Value.okWide P w r b0 t v) (h : DataW.Trod enc P w base spare held t v d p) :
    ∃ (b : ByteArray) (i k d r z m : Int), v = .agg #[.string b, .int .i64 i, .int .i64 k, .int .i64 d, .int .i64 r, .int .i64 z, .int .i64 m] ∧ p = [] ∧ b.size ≤ maxLen ∧ (Lit.int .i64 i).wf = true ∧ (Lit.int .i64 k).wf = true ∧ (Lit.int .i64 d).wf = true ∧
      (Lit.int .i64 r).wf = true ∧ (Lit.int .i64 z).wf = true ∧ (Lit.int .i64 m).wf = true := by
  simp only [List.cons.injEq, and_true] at he ho hC
  obtain ⟨e0, e1, e2, e3, e4, e5, e6, e7⟩ := he
  obtain ⟨o0, o1, o2, o3, o4, o5, o6, o7⟩ := ho
  obtain ⟨c0, c1, c2, c3⟩ := hC
  obtain ⟨cs, rfl, hsz⟩ := okWide_struct hs hv
  obtain ⟨v0, v1, v2, v3, v4, v5, v6, rfl⟩ := array7 (hsz.trans c0)
  obtain ⟨fuel, hf⟩ := h
  obtain ⟨y0, y1, y2, y3, n, hx, _, h0, h1, h2, h3⟩ := trod_struct4 hs hf
  rw [e0, o0, c1] at h0
  rw [e1, o1, c2] at h1
  rw [e2, o2, c2] at h2
  rw [e3, o3, c3] at h3
  obtain ⟨z0, z1, z2, z3, n', hx', _, k0, k1, k2, k3⟩ := trod_struct4 hq h3
  rw [e4, o4, c2] at k0
  rw [e5, o5, c2] at k1
  rw [e6, o6, c2] at k2
  rw [e7, o7, c2] at k3
  obtain ⟨b, eb, rfl, wb⟩ := DataW.trod_string hS h0
  obtain ⟨x1, q1, rfl, w1⟩ := DataW.trod_int hi h1
  obtain ⟨x2, q2, rfl, w2⟩ := DataW.trod_int hi h2
  obtain ⟨x3, q3, rfl, w3⟩ := DataW.trod_int hi k0
  obtain ⟨x4, q4, rfl, w4⟩ := DataW.trod_int hi k1
  obtain ⟨x5, q5, rfl, w5⟩ := DataW.trod_int hi k2
  obtain ⟨x6, q6, rfl, w6⟩ := DataW.trod_int hi k3
  simp [Value.cells] at eb q1 q2 q3 q4 q5 q6
  subst eb q1 q2 q3 q4 q5 q6
  simp only [Prod.mk.injEq] at hx
  rw [hx'] at hx
  exact ⟨_, _, _, _, _, _, _, rfl, hx.2, wb, w1, w2, w3, w4, w5, w6⟩
end Go.Rlm
end

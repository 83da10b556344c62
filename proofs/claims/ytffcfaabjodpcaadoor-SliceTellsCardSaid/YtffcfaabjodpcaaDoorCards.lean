/-
  DERIVED. GIVEN WITH THE SEED: THE CARDS: each row of YtffcfaabjodpcaaDoorRows.lean that lists a variable, with what it lists TIED to the program's text (the seventh form; the later family's looks); each row that meets fmt, with fmt's text TOLD by the authors' own Lean function (tested against real Go, not proved from fmt's source: count such statements apart). THE CARD IS WHAT COUNTS. Prove the row's statement (the work); the ties are given (YtffcfaabjodpcaaDoorTie.lean); close each card by the builder's one call (the guide's Derived/Test/ToyasCard.lean, 'card_holds'). Laid BY PROGRAM, IN A SANDBOX (cutbox-door.mjs). By AI agents, Wed Nov 11 2026. No macro, syntax, notation, axiom, sorry.
-/
import Derived.Test.YtffcfaabjodpcaaDoorRows
import GoSem.ClaimSeven
namespace Go.Proofs.YtffcfaabjodpcaaDoor
namespace Rows

/-- THE TIED CARD OF 'hamperlaw26.SliceTells'. -/
def sliceTellsCard : Claim7 := { stood := { row := sliceTellsRow, standIns := [], harness := (true, "3633c592ac90e686a30edb5d61e8924d1895e88b1559acd4bd5b79dd51f22322"), looks := true }, kinds := [], alts := [], laidByText := true, laidKinds := [.data, .data, .data, .data, .sentinel, .sentinel, .pinned], laidTests := true, laidLooks := .later }
def SliceTellsCardSaid : Prop := Claim7.holds Tryd.pinned (.plain (OpenSpec.ofChange sliceTellsSpec)) sliceTellsCard

/-- THE TIED CARD OF 'hamperlaw26.SliceNames'. -/
def sliceNamesCard : Claim7 := { stood := { row := sliceNamesRow, standIns := [], harness := (true, "3633c592ac90e686a30edb5d61e8924d1895e88b1559acd4bd5b79dd51f22322"), looks := true }, kinds := [], alts := [], laidByText := true, laidKinds := [.data, .data, .data, .data, .sentinel, .sentinel, .pinned], laidTests := true, laidLooks := .later }
def SliceNamesCardSaid : Prop := Claim7.holds Tryd.pinned (.plain (OpenSpec.ofChange sliceNamesSpec)) sliceNamesCard

/-- THE TIED CARD OF 'hamperlaw26.SliceBack'. -/
def sliceBackCard : Claim7 := { stood := { row := sliceBackRow, standIns := [], harness := (true, "3633c592ac90e686a30edb5d61e8924d1895e88b1559acd4bd5b79dd51f22322"), looks := true }, kinds := [], alts := [], laidByText := true, laidKinds := [.data, .data, .data, .data, .sentinel, .sentinel, .pinned], laidTests := true, laidLooks := .later }
def SliceBackCardSaid : Prop := Claim7.holds Tryd.pinned (.plain (OpenSpec.ofChange sliceBackSpec)) sliceBackCard

/-- THE TIED CARD OF 'hamperlaw26.SliceNamed'. -/
def sliceNamedCard : Claim7 := { stood := { row := sliceNamedRow, standIns := [], harness := (true, "3633c592ac90e686a30edb5d61e8924d1895e88b1559acd4bd5b79dd51f22322"), looks := true }, kinds := [], alts := [], laidByText := true, laidKinds := [.data, .data, .data, .data, .sentinel, .sentinel, .pinned], laidTests := true, laidLooks := .later }
def SliceNamedCardSaid : Prop := Claim7.holds Tryd.pinned (.plain (OpenSpec.ofChange sliceNamedSpec)) sliceNamedCard

/-- THE TIED CARD OF 'hamperlaw26.SliceLays'. -/
def sliceLaysCard : Claim7 := { stood := { row := sliceLaysRow, standIns := [], harness := (true, "3633c592ac90e686a30edb5d61e8924d1895e88b1559acd4bd5b79dd51f22322"), looks := true }, kinds := [], alts := [], laidByText := true, laidKinds := [.data, .data, .data, .data, .sentinel, .sentinel, .pinned], laidTests := true, laidLooks := .later }
def SliceLaysCardSaid : Prop := Claim7.holds Tryd.pinned (.plain (OpenSpec.ofChange sliceLaysSpec)) sliceLaysCard

/-- THE TIED CARD OF 'hamperlaw26.SliceMore'. -/
def sliceMoreCard : Claim7 := { stood := { row := sliceMoreRow, standIns := [], harness := (true, "3633c592ac90e686a30edb5d61e8924d1895e88b1559acd4bd5b79dd51f22322"), looks := true }, kinds := [], alts := [], laidByText := true, laidKinds := [.data, .data, .data, .data, .sentinel, .sentinel, .pinned], laidTests := true, laidLooks := .later }
def SliceMoreCardSaid : Prop := Claim7.holds Tryd.pinned (.plain (OpenSpec.ofChange sliceMoreSpec)) sliceMoreCard

/-- THE SECOND FORM's CARD OF 'hamperlaw26.SliceTells'. -/
def sliceTellsUptoCard : Claim7 := { stood := { row := sliceTellsUptoRow, standIns := [], harness := (true, "3633c592ac90e686a30edb5d61e8924d1895e88b1559acd4bd5b79dd51f22322"), looks := true }, kinds := [], alts := [], laidByText := true, laidKinds := [.data, .data, .data, .data, .sentinel, .sentinel, .pinned], laidTests := true, laidLooks := .later }
def SliceTellsUptoCardSaid : Prop := Claim7.holds Tryd.pinned (.plain (OpenSpec.upto sliceTellsSpec)) sliceTellsUptoCard

/-- THE SECOND FORM's CARD OF 'hamperlaw26.SliceNames'. -/
def sliceNamesUptoCard : Claim7 := { stood := { row := sliceNamesUptoRow, standIns := [], harness := (true, "3633c592ac90e686a30edb5d61e8924d1895e88b1559acd4bd5b79dd51f22322"), looks := true }, kinds := [], alts := [], laidByText := true, laidKinds := [.data, .data, .data, .data, .sentinel, .sentinel, .pinned], laidTests := true, laidLooks := .later }
def SliceNamesUptoCardSaid : Prop := Claim7.holds Tryd.pinned (.plain (OpenSpec.upto sliceNamesSpec)) sliceNamesUptoCard

/-- THE SECOND FORM's CARD OF 'hamperlaw26.SliceBack'. -/
def sliceBackUptoCard : Claim7 := { stood := { row := sliceBackUptoRow, standIns := [], harness := (true, "3633c592ac90e686a30edb5d61e8924d1895e88b1559acd4bd5b79dd51f22322"), looks := true }, kinds := [], alts := [], laidByText := true, laidKinds := [.data, .data, .data, .data, .sentinel, .sentinel, .pinned], laidTests := true, laidLooks := .later }
def SliceBackUptoCardSaid : Prop := Claim7.holds Tryd.pinned (.plain (OpenSpec.upto sliceBackSpec)) sliceBackUptoCard

/-- THE SECOND FORM's CARD OF 'hamperlaw26.SliceNamed'. -/
def sliceNamedUptoCard : Claim7 := { stood := { row := sliceNamedUptoRow, standIns := [], harness := (true, "3633c592ac90e686a30edb5d61e8924d1895e88b1559acd4bd5b79dd51f22322"), looks := true }, kinds := [], alts := [], laidByText := true, laidKinds := [.data, .data, .data, .data, .sentinel, .sentinel, .pinned], laidTests := true, laidLooks := .later }
def SliceNamedUptoCardSaid : Prop := Claim7.holds Tryd.pinned (.plain (OpenSpec.upto sliceNamedSpec)) sliceNamedUptoCard

/-- THE SECOND FORM's CARD OF 'hamperlaw26.SliceLays'. -/
def sliceLaysUptoCard : Claim7 := { stood := { row := sliceLaysUptoRow, standIns := [], harness := (true, "3633c592ac90e686a30edb5d61e8924d1895e88b1559acd4bd5b79dd51f22322"), looks := true }, kinds := [], alts := [], laidByText := true, laidKinds := [.data, .data, .data, .data, .sentinel, .sentinel, .pinned], laidTests := true, laidLooks := .later }
def SliceLaysUptoCardSaid : Prop := Claim7.holds Tryd.pinned (.plain (OpenSpec.upto sliceLaysSpec)) sliceLaysUptoCard

/-- THE SECOND FORM's CARD OF 'hamperlaw26.SliceMore'. -/
def sliceMoreUptoCard : Claim7 := { stood := { row := sliceMoreUptoRow, standIns := [], harness := (true, "3633c592ac90e686a30edb5d61e8924d1895e88b1559acd4bd5b79dd51f22322"), looks := true }, kinds := [], alts := [], laidByText := true, laidKinds := [.data, .data, .data, .data, .sentinel, .sentinel, .pinned], laidTests := true, laidLooks := .later }
def SliceMoreUptoCardSaid : Prop := Claim7.holds Tryd.pinned (.plain (OpenSpec.upto sliceMoreSpec)) sliceMoreUptoCard
end Rows
end Go.Proofs.YtffcfaabjodpcaaDoor

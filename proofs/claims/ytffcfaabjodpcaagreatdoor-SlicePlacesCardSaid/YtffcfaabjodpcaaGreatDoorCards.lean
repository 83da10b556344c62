/-
  DERIVED. GIVEN WITH THE SEED: THE CARDS: each row of YtffcfaabjodpcaaGreatDoorRows.lean that lists a variable, with what it lists TIED to the program's text (the seventh form; the later family's looks); each row that meets fmt, with fmt's text TOLD by the authors' own Lean function (tested against real Go, not proved from fmt's source: count such statements apart). THE CARD IS WHAT COUNTS. Prove the row's statement (the work); the ties are given (YtffcfaabjodpcaaGreatDoorTie.lean); close each card by the builder's one call (the guide's Derived/Test/ToyasCard.lean, 'card_holds'). Laid BY PROGRAM, IN A SANDBOX (cutbox-door.mjs). By AI agents, Wed Nov 11 2026. No macro, syntax, notation, axiom, sorry.
-/
import Derived.Test.YtffcfaabjodpcaaGreatDoorRows
import GoSem.ClaimSeven
namespace Go.Proofs.YtffcfaabjodpcaaGreatDoor
namespace Rows

/-- THE TIED CARD OF 'hamperlaw26.SlicePlaces'. -/
def slicePlacesCard : Claim7 := { stood := { row := slicePlacesRow, standIns := [], harness := (true, "87da0c133125941093e37766539c3545a86e0c770fbc9fe8750c7282488bfea4"), looks := true }, kinds := [], alts := [], laidByText := true, laidKinds := [.data, .data, .data, .data, .sentinel, .sentinel, .pinned], laidTests := true, laidLooks := .later }
def SlicePlacesCardSaid : Prop := Claim7.holds Tryz.pinned (.plain (OpenSpec.ofChange slicePlacesSpec)) slicePlacesCard

/-- THE TIED CARD OF 'hamperlaw26.SliceApart'. -/
def sliceApartCard : Claim7 := { stood := { row := sliceApartRow, standIns := [], harness := (true, "87da0c133125941093e37766539c3545a86e0c770fbc9fe8750c7282488bfea4"), looks := true }, kinds := [], alts := [], laidByText := true, laidKinds := [.data, .data, .data, .data, .sentinel, .sentinel, .pinned], laidTests := true, laidLooks := .later }
def SliceApartCardSaid : Prop := Claim7.holds Tryz.pinned (.plain (OpenSpec.ofChange sliceApartSpec)) sliceApartCard

/-- THE TIED CARD OF 'hamperlaw22.BodyMakes'. -/
def bodyMakesCard : Claim7 := { stood := { row := bodyMakesRow, standIns := [], harness := (true, "87da0c133125941093e37766539c3545a86e0c770fbc9fe8750c7282488bfea4"), looks := true }, kinds := [], alts := [], laidByText := true, laidKinds := [.data, .pinned], laidTests := true, laidLooks := .later }
def BodyMakesCardSaid : Prop := Claim7.holds Tryz.pinned (.plain (OpenSpec.ofChange bodyMakesSpec)) bodyMakesCard

/-- THE TIED CARD OF 'hamperlaw22.BodyOrder'. -/
def bodyOrderCard : Claim7 := { stood := { row := bodyOrderRow, standIns := [], harness := (true, "87da0c133125941093e37766539c3545a86e0c770fbc9fe8750c7282488bfea4"), looks := true }, kinds := [], alts := [], laidByText := true, laidKinds := [.data, .pinned], laidTests := true, laidLooks := .later }
def BodyOrderCardSaid : Prop := Claim7.holds Tryz.pinned (.plain (OpenSpec.ofChange bodyOrderSpec)) bodyOrderCard

/-- THE TIED CARD OF 'hamperlaw22.BodyLimit'. -/
def bodyLimitCard : Claim7 := { stood := { row := bodyLimitRow, standIns := [], harness := (true, "87da0c133125941093e37766539c3545a86e0c770fbc9fe8750c7282488bfea4"), looks := true }, kinds := [], alts := [], laidByText := true, laidKinds := [.data, .pinned], laidTests := true, laidLooks := .later }
def BodyLimitCardSaid : Prop := Claim7.holds Tryz.pinned (.plain (OpenSpec.ofChange bodyLimitSpec)) bodyLimitCard

/-- THE TIED CARD OF 'hamperlaw22.BodyData'. -/
def bodyDataCard : Claim7 := { stood := { row := bodyDataRow, standIns := [], harness := (true, "87da0c133125941093e37766539c3545a86e0c770fbc9fe8750c7282488bfea4"), looks := true }, kinds := [], alts := [], laidByText := true, laidKinds := [.data, .pinned], laidTests := true, laidLooks := .later }
def BodyDataCardSaid : Prop := Claim7.holds Tryz.pinned (.plain (OpenSpec.ofChange bodyDataSpec)) bodyDataCard

/-- THE TIED CARD OF 'hamperlaw22.BodyReads'. -/
def bodyReadsCard : Claim7 := { stood := { row := bodyReadsRow, standIns := [], harness := (true, "87da0c133125941093e37766539c3545a86e0c770fbc9fe8750c7282488bfea4"), looks := true }, kinds := [], alts := [], laidByText := true, laidKinds := [.data, .pinned], laidTests := true, laidLooks := .later }
def BodyReadsCardSaid : Prop := Claim7.holds Tryz.pinned (.plain (OpenSpec.ofChange bodyReadsSpec)) bodyReadsCard

/-- THE TIED CARD OF 'hamperlaw22.BodyNames'. -/
def bodyNamesCard : Claim7 := { stood := { row := bodyNamesRow, standIns := [], harness := (true, "87da0c133125941093e37766539c3545a86e0c770fbc9fe8750c7282488bfea4"), looks := true }, kinds := [], alts := [], laidByText := true, laidKinds := [.data, .pinned], laidTests := true, laidLooks := .later }
def BodyNamesCardSaid : Prop := Claim7.holds Tryz.pinned (.plain (OpenSpec.ofChange bodyNamesSpec)) bodyNamesCard

/-- THE TIED CARD OF 'hamperlaw22.BodyBack'. -/
def bodyBackCard : Claim7 := { stood := { row := bodyBackRow, standIns := [], harness := (true, "87da0c133125941093e37766539c3545a86e0c770fbc9fe8750c7282488bfea4"), looks := true }, kinds := [], alts := [], laidByText := true, laidKinds := [.data, .pinned], laidTests := true, laidLooks := .later }
def BodyBackCardSaid : Prop := Claim7.holds Tryz.pinned (.plain (OpenSpec.ofChange bodyBackSpec)) bodyBackCard

/-- THE TIED CARD OF 'hamperlaw22.BodyTaken'. -/
def bodyTakenCard : Claim7 := { stood := { row := bodyTakenRow, standIns := [], harness := (true, "87da0c133125941093e37766539c3545a86e0c770fbc9fe8750c7282488bfea4"), looks := true }, kinds := [], alts := [], laidByText := true, laidKinds := [.data, .pinned], laidTests := true, laidLooks := .later }
def BodyTakenCardSaid : Prop := Claim7.holds Tryz.pinned (.plain (OpenSpec.ofChange bodyTakenSpec)) bodyTakenCard

/-- THE SECOND FORM's CARD OF 'hamperlaw26.SlicePlaces'. -/
def slicePlacesUptoCard : Claim7 := { stood := { row := slicePlacesUptoRow, standIns := [], harness := (true, "87da0c133125941093e37766539c3545a86e0c770fbc9fe8750c7282488bfea4"), looks := true }, kinds := [], alts := [], laidByText := true, laidKinds := [.data, .data, .data, .data, .sentinel, .sentinel, .pinned], laidTests := true, laidLooks := .later }
def SlicePlacesUptoCardSaid : Prop := Claim7.holds Tryz.pinned (.plain (OpenSpec.upto slicePlacesSpec)) slicePlacesUptoCard

/-- THE SECOND FORM's CARD OF 'hamperlaw26.SliceApart'. -/
def sliceApartUptoCard : Claim7 := { stood := { row := sliceApartUptoRow, standIns := [], harness := (true, "87da0c133125941093e37766539c3545a86e0c770fbc9fe8750c7282488bfea4"), looks := true }, kinds := [], alts := [], laidByText := true, laidKinds := [.data, .data, .data, .data, .sentinel, .sentinel, .pinned], laidTests := true, laidLooks := .later }
def SliceApartUptoCardSaid : Prop := Claim7.holds Tryz.pinned (.plain (OpenSpec.upto sliceApartSpec)) sliceApartUptoCard

/-- THE SECOND FORM's CARD OF 'hamperlaw22.BodyMakes'. -/
def bodyMakesUptoCard : Claim7 := { stood := { row := bodyMakesUptoRow, standIns := [], harness := (true, "87da0c133125941093e37766539c3545a86e0c770fbc9fe8750c7282488bfea4"), looks := true }, kinds := [], alts := [], laidByText := true, laidKinds := [.data, .pinned], laidTests := true, laidLooks := .later }
def BodyMakesUptoCardSaid : Prop := Claim7.holds Tryz.pinned (.plain (OpenSpec.upto bodyMakesSpec)) bodyMakesUptoCard

/-- THE SECOND FORM's CARD OF 'hamperlaw22.BodyOrder'. -/
def bodyOrderUptoCard : Claim7 := { stood := { row := bodyOrderUptoRow, standIns := [], harness := (true, "87da0c133125941093e37766539c3545a86e0c770fbc9fe8750c7282488bfea4"), looks := true }, kinds := [], alts := [], laidByText := true, laidKinds := [.data, .pinned], laidTests := true, laidLooks := .later }
def BodyOrderUptoCardSaid : Prop := Claim7.holds Tryz.pinned (.plain (OpenSpec.upto bodyOrderSpec)) bodyOrderUptoCard

/-- THE SECOND FORM's CARD OF 'hamperlaw22.BodyLimit'. -/
def bodyLimitUptoCard : Claim7 := { stood := { row := bodyLimitUptoRow, standIns := [], harness := (true, "87da0c133125941093e37766539c3545a86e0c770fbc9fe8750c7282488bfea4"), looks := true }, kinds := [], alts := [], laidByText := true, laidKinds := [.data, .pinned], laidTests := true, laidLooks := .later }
def BodyLimitUptoCardSaid : Prop := Claim7.holds Tryz.pinned (.plain (OpenSpec.upto bodyLimitSpec)) bodyLimitUptoCard

/-- THE SECOND FORM's CARD OF 'hamperlaw22.BodyData'. -/
def bodyDataUptoCard : Claim7 := { stood := { row := bodyDataUptoRow, standIns := [], harness := (true, "87da0c133125941093e37766539c3545a86e0c770fbc9fe8750c7282488bfea4"), looks := true }, kinds := [], alts := [], laidByText := true, laidKinds := [.data, .pinned], laidTests := true, laidLooks := .later }
def BodyDataUptoCardSaid : Prop := Claim7.holds Tryz.pinned (.plain (OpenSpec.upto bodyDataSpec)) bodyDataUptoCard

/-- THE SECOND FORM's CARD OF 'hamperlaw22.BodyReads'. -/
def bodyReadsUptoCard : Claim7 := { stood := { row := bodyReadsUptoRow, standIns := [], harness := (true, "87da0c133125941093e37766539c3545a86e0c770fbc9fe8750c7282488bfea4"), looks := true }, kinds := [], alts := [], laidByText := true, laidKinds := [.data, .pinned], laidTests := true, laidLooks := .later }
def BodyReadsUptoCardSaid : Prop := Claim7.holds Tryz.pinned (.plain (OpenSpec.upto bodyReadsSpec)) bodyReadsUptoCard

/-- THE SECOND FORM's CARD OF 'hamperlaw22.BodyNames'. -/
def bodyNamesUptoCard : Claim7 := { stood := { row := bodyNamesUptoRow, standIns := [], harness := (true, "87da0c133125941093e37766539c3545a86e0c770fbc9fe8750c7282488bfea4"), looks := true }, kinds := [], alts := [], laidByText := true, laidKinds := [.data, .pinned], laidTests := true, laidLooks := .later }
def BodyNamesUptoCardSaid : Prop := Claim7.holds Tryz.pinned (.plain (OpenSpec.upto bodyNamesSpec)) bodyNamesUptoCard

/-- THE SECOND FORM's CARD OF 'hamperlaw22.BodyBack'. -/
def bodyBackUptoCard : Claim7 := { stood := { row := bodyBackUptoRow, standIns := [], harness := (true, "87da0c133125941093e37766539c3545a86e0c770fbc9fe8750c7282488bfea4"), looks := true }, kinds := [], alts := [], laidByText := true, laidKinds := [.data, .pinned], laidTests := true, laidLooks := .later }
def BodyBackUptoCardSaid : Prop := Claim7.holds Tryz.pinned (.plain (OpenSpec.upto bodyBackSpec)) bodyBackUptoCard

/-- THE SECOND FORM's CARD OF 'hamperlaw22.BodyTaken'. -/
def bodyTakenUptoCard : Claim7 := { stood := { row := bodyTakenUptoRow, standIns := [], harness := (true, "87da0c133125941093e37766539c3545a86e0c770fbc9fe8750c7282488bfea4"), looks := true }, kinds := [], alts := [], laidByText := true, laidKinds := [.data, .pinned], laidTests := true, laidLooks := .later }
def BodyTakenUptoCardSaid : Prop := Claim7.holds Tryz.pinned (.plain (OpenSpec.upto bodyTakenSpec)) bodyTakenUptoCard
end Rows
end Go.Proofs.YtffcfaabjodpcaaGreatDoor

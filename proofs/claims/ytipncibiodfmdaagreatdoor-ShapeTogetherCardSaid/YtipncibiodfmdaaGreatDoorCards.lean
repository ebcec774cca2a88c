/-
  DERIVED. GIVEN WITH THE SEED: THE CARDS: each row of YtipncibiodfmdaaGreatDoorRows.lean that lists a variable, with what it lists TIED to the program's text (the seventh form; the later family's looks); each row that meets fmt, with fmt's text TOLD by the authors' own Lean function (tested against real Go, not proved from fmt's source: count such statements apart). THE CARD IS WHAT COUNTS. Prove the row's statement (the work); the ties are given (YtipncibiodfmdaaGreatDoorTie.lean); close each card by the builder's one call (the guide's Derived/Test/ToyasCard.lean, 'card_holds'). Laid BY PROGRAM, IN A SANDBOX (cutbox-door.mjs). By AI agents, Wed Nov 11 2026. No macro, syntax, notation, axiom, sorry.
-/
import Derived.Test.YtipncibiodfmdaaGreatDoorRows
import GoSem.ClaimSeven
namespace Go.Proofs.YtipncibiodfmdaaGreatDoor
namespace Rows

/-- THE TIED CARD OF 'isobarlaw24.SeriesAsks'. -/
def seriesAsksCard : Claim7 := { stood := { row := seriesAsksRow, standIns := [], harness := (true, "19e98535d96c2eb95cd21eb6899689f8fe720e949684122cc4c810d87bbebbe4"), looks := false }, kinds := [], alts := [], laidByText := true, laidKinds := [.data, .data, .data, .data, .pinned], laidTests := true, laidLooks := .later }
def SeriesAsksCardSaid : Prop := Claim7.holds Tryz.pinned (.plain (OpenSpec.ofChange seriesAsksSpec)) seriesAsksCard

/-- THE TIED CARD OF 'isobarlaw25.ShapeApplies'. -/
def shapeAppliesCard : Claim7 := { stood := { row := shapeAppliesRow, standIns := [], harness := (true, "19e98535d96c2eb95cd21eb6899689f8fe720e949684122cc4c810d87bbebbe4"), looks := false }, kinds := [], alts := [], laidByText := true, laidKinds := [.data, .data, .data, .data, .listed, .data, .pinned], laidTests := true, laidLooks := .later }
def ShapeAppliesCardSaid : Prop := Claim7.holds Tryz.pinned (.plain (OpenSpec.ofChange shapeAppliesSpec)) shapeAppliesCard

/-- THE TIED CARD OF 'isobarlaw25.ShapeLabels'. -/
def shapeLabelsCard : Claim7 := { stood := { row := shapeLabelsRow, standIns := [], harness := (true, "19e98535d96c2eb95cd21eb6899689f8fe720e949684122cc4c810d87bbebbe4"), looks := false }, kinds := [], alts := [], laidByText := true, laidKinds := [.data, .data, .data, .data, .listed, .data, .pinned], laidTests := true, laidLooks := .later }
def ShapeLabelsCardSaid : Prop := Claim7.holds Tryz.pinned (.plain (OpenSpec.ofChange shapeLabelsSpec)) shapeLabelsCard

/-- THE TIED CARD OF 'isobarlaw25.ShapeLong'. -/
def shapeLongCard : Claim7 := { stood := { row := shapeLongRow, standIns := [], harness := (true, "19e98535d96c2eb95cd21eb6899689f8fe720e949684122cc4c810d87bbebbe4"), looks := false }, kinds := [], alts := [], laidByText := true, laidKinds := [.data, .data, .data, .data, .listed, .data, .pinned], laidTests := true, laidLooks := .later }
def ShapeLongCardSaid : Prop := Claim7.holds Tryz.pinned (.plain (OpenSpec.ofChange shapeLongSpec)) shapeLongCard

/-- THE TIED CARD OF 'isobarlaw25.ShapeTogether'. -/
def shapeTogetherCard : Claim7 := { stood := { row := shapeTogetherRow, standIns := [], harness := (true, "19e98535d96c2eb95cd21eb6899689f8fe720e949684122cc4c810d87bbebbe4"), looks := false }, kinds := [], alts := [], laidByText := true, laidKinds := [.data, .data, .data, .data, .listed, .data, .pinned], laidTests := true, laidLooks := .later }
def ShapeTogetherCardSaid : Prop := Claim7.holds Tryz.pinned (.plain (OpenSpec.ofChange shapeTogetherSpec)) shapeTogetherCard

/-- THE TIED CARD OF 'isobarlaw25.ShapeDelays'. -/
def shapeDelaysCard : Claim7 := { stood := { row := shapeDelaysRow, standIns := [], harness := (true, "19e98535d96c2eb95cd21eb6899689f8fe720e949684122cc4c810d87bbebbe4"), looks := false }, kinds := [], alts := [], laidByText := true, laidKinds := [.data, .data, .data, .data, .listed, .data, .pinned], laidTests := true, laidLooks := .later }
def ShapeDelaysCardSaid : Prop := Claim7.holds Tryz.pinned (.plain (OpenSpec.ofChange shapeDelaysSpec)) shapeDelaysCard

/-- THE SECOND FORM's CARD OF 'isobarlaw24.SeriesAsks'. -/
def seriesAsksUptoCard : Claim7 := { stood := { row := seriesAsksUptoRow, standIns := [], harness := (true, "19e98535d96c2eb95cd21eb6899689f8fe720e949684122cc4c810d87bbebbe4"), looks := false }, kinds := [], alts := [], laidByText := true, laidKinds := [.data, .data, .data, .data, .pinned], laidTests := true, laidLooks := .later }
def SeriesAsksUptoCardSaid : Prop := Claim7.holds Tryz.pinned (.plain (OpenSpec.upto seriesAsksSpec)) seriesAsksUptoCard

/-- THE SECOND FORM's CARD OF 'isobarlaw25.ShapeApplies'. -/
def shapeAppliesUptoCard : Claim7 := { stood := { row := shapeAppliesUptoRow, standIns := [], harness := (true, "19e98535d96c2eb95cd21eb6899689f8fe720e949684122cc4c810d87bbebbe4"), looks := false }, kinds := [], alts := [], laidByText := true, laidKinds := [.data, .data, .data, .data, .listed, .data, .pinned], laidTests := true, laidLooks := .later }
def ShapeAppliesUptoCardSaid : Prop := Claim7.holds Tryz.pinned (.plain (OpenSpec.upto shapeAppliesSpec)) shapeAppliesUptoCard

/-- THE SECOND FORM's CARD OF 'isobarlaw25.ShapeLabels'. -/
def shapeLabelsUptoCard : Claim7 := { stood := { row := shapeLabelsUptoRow, standIns := [], harness := (true, "19e98535d96c2eb95cd21eb6899689f8fe720e949684122cc4c810d87bbebbe4"), looks := false }, kinds := [], alts := [], laidByText := true, laidKinds := [.data, .data, .data, .data, .listed, .data, .pinned], laidTests := true, laidLooks := .later }
def ShapeLabelsUptoCardSaid : Prop := Claim7.holds Tryz.pinned (.plain (OpenSpec.upto shapeLabelsSpec)) shapeLabelsUptoCard

/-- THE SECOND FORM's CARD OF 'isobarlaw25.ShapeLong'. -/
def shapeLongUptoCard : Claim7 := { stood := { row := shapeLongUptoRow, standIns := [], harness := (true, "19e98535d96c2eb95cd21eb6899689f8fe720e949684122cc4c810d87bbebbe4"), looks := false }, kinds := [], alts := [], laidByText := true, laidKinds := [.data, .data, .data, .data, .listed, .data, .pinned], laidTests := true, laidLooks := .later }
def ShapeLongUptoCardSaid : Prop := Claim7.holds Tryz.pinned (.plain (OpenSpec.upto shapeLongSpec)) shapeLongUptoCard

/-- THE SECOND FORM's CARD OF 'isobarlaw25.ShapeTogether'. -/
def shapeTogetherUptoCard : Claim7 := { stood := { row := shapeTogetherUptoRow, standIns := [], harness := (true, "19e98535d96c2eb95cd21eb6899689f8fe720e949684122cc4c810d87bbebbe4"), looks := false }, kinds := [], alts := [], laidByText := true, laidKinds := [.data, .data, .data, .data, .listed, .data, .pinned], laidTests := true, laidLooks := .later }
def ShapeTogetherUptoCardSaid : Prop := Claim7.holds Tryz.pinned (.plain (OpenSpec.upto shapeTogetherSpec)) shapeTogetherUptoCard

/-- THE SECOND FORM's CARD OF 'isobarlaw25.ShapeDelays'. -/
def shapeDelaysUptoCard : Claim7 := { stood := { row := shapeDelaysUptoRow, standIns := [], harness := (true, "19e98535d96c2eb95cd21eb6899689f8fe720e949684122cc4c810d87bbebbe4"), looks := false }, kinds := [], alts := [], laidByText := true, laidKinds := [.data, .data, .data, .data, .listed, .data, .pinned], laidTests := true, laidLooks := .later }
def ShapeDelaysUptoCardSaid : Prop := Claim7.holds Tryz.pinned (.plain (OpenSpec.upto shapeDelaysSpec)) shapeDelaysUptoCard
end Rows
end Go.Proofs.YtipncibiodfmdaaGreatDoor

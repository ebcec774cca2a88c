/-
  DERIVED. GIVEN WITH THE SEED: THE CARDS: each row of YtjkajkhomklikaaGreatDoorRows.lean that lists a variable, with what it lists TIED to the program's text (the seventh form; the later family's looks); each row that meets fmt, with fmt's text TOLD by the authors' own Lean function (tested against real Go, not proved from fmt's source: count such statements apart). THE CARD IS WHAT COUNTS. Prove the row's statement (the work); the ties are given (YtjkajkhomklikaaGreatDoorTie.lean); close each card by the builder's one call (the guide's Derived/Test/ToyasCard.lean, 'card_holds'). Laid BY PROGRAM, IN A SANDBOX (cutbox-door.mjs). By AI agents, Wed Nov 11 2026. No macro, syntax, notation, axiom, sorry.
-/
import Derived.Test.YtjkajkhomklikaaGreatDoorRows
import GoSem.ClaimSeven
namespace Go.Proofs.YtjkajkhomklikaaGreatDoor
namespace Rows

/-- THE TIED CARD OF 'isobarlaw24.SeriesReckons'. -/
def seriesReckonsCard : Claim7 := { stood := { row := seriesReckonsRow, standIns := [], harness := (true, "f5309ad66388472153b96a70596900377e81d20835064e0c471e731a34d1d02e"), looks := false }, kinds := [], alts := [], laidByText := true, laidKinds := [.data, .data, .data, .data, .pinned], laidTests := true, laidLooks := .later }
def SeriesReckonsCardSaid : Prop := Claim7.holds Tryz.pinned (.plain (OpenSpec.ofChange seriesReckonsSpec)) seriesReckonsCard

/-- THE TIED CARD OF 'isobarlaw24.SeriesCoarser'. -/
def seriesCoarserCard : Claim7 := { stood := { row := seriesCoarserRow, standIns := [], harness := (true, "f5309ad66388472153b96a70596900377e81d20835064e0c471e731a34d1d02e"), looks := false }, kinds := [], alts := [], laidByText := true, laidKinds := [.data, .data, .data, .data, .pinned], laidTests := true, laidLooks := .later }
def SeriesCoarserCardSaid : Prop := Claim7.holds Tryz.pinned (.plain (OpenSpec.ofChange seriesCoarserSpec)) seriesCoarserCard

/-- THE TIED CARD OF 'isobarlaw24.SeriesAligns'. -/
def seriesAlignsCard : Claim7 := { stood := { row := seriesAlignsRow, standIns := [], harness := (true, "f5309ad66388472153b96a70596900377e81d20835064e0c471e731a34d1d02e"), looks := false }, kinds := [], alts := [], laidByText := true, laidKinds := [.data, .data, .data, .data, .pinned], laidTests := true, laidLooks := .later }
def SeriesAlignsCardSaid : Prop := Claim7.holds Tryz.pinned (.plain (OpenSpec.ofChange seriesAlignsSpec)) seriesAlignsCard

/-- THE TIED CARD OF 'isobarlaw24.SeriesAsks'. -/
def seriesAsksCard : Claim7 := { stood := { row := seriesAsksRow, standIns := [], harness := (true, "f5309ad66388472153b96a70596900377e81d20835064e0c471e731a34d1d02e"), looks := false }, kinds := [], alts := [], laidByText := true, laidKinds := [.data, .data, .data, .data, .pinned], laidTests := true, laidLooks := .later }
def SeriesAsksCardSaid : Prop := Claim7.holds Tryz.pinned (.plain (OpenSpec.ofChange seriesAsksSpec)) seriesAsksCard

/-- THE SECOND FORM's CARD OF 'isobarlaw24.SeriesReckons'. -/
def seriesReckonsUptoCard : Claim7 := { stood := { row := seriesReckonsUptoRow, standIns := [], harness := (true, "f5309ad66388472153b96a70596900377e81d20835064e0c471e731a34d1d02e"), looks := false }, kinds := [], alts := [], laidByText := true, laidKinds := [.data, .data, .data, .data, .pinned], laidTests := true, laidLooks := .later }
def SeriesReckonsUptoCardSaid : Prop := Claim7.holds Tryz.pinned (.plain (OpenSpec.upto seriesReckonsSpec)) seriesReckonsUptoCard

/-- THE SECOND FORM's CARD OF 'isobarlaw24.SeriesCoarser'. -/
def seriesCoarserUptoCard : Claim7 := { stood := { row := seriesCoarserUptoRow, standIns := [], harness := (true, "f5309ad66388472153b96a70596900377e81d20835064e0c471e731a34d1d02e"), looks := false }, kinds := [], alts := [], laidByText := true, laidKinds := [.data, .data, .data, .data, .pinned], laidTests := true, laidLooks := .later }
def SeriesCoarserUptoCardSaid : Prop := Claim7.holds Tryz.pinned (.plain (OpenSpec.upto seriesCoarserSpec)) seriesCoarserUptoCard

/-- THE SECOND FORM's CARD OF 'isobarlaw24.SeriesAligns'. -/
def seriesAlignsUptoCard : Claim7 := { stood := { row := seriesAlignsUptoRow, standIns := [], harness := (true, "f5309ad66388472153b96a70596900377e81d20835064e0c471e731a34d1d02e"), looks := false }, kinds := [], alts := [], laidByText := true, laidKinds := [.data, .data, .data, .data, .pinned], laidTests := true, laidLooks := .later }
def SeriesAlignsUptoCardSaid : Prop := Claim7.holds Tryz.pinned (.plain (OpenSpec.upto seriesAlignsSpec)) seriesAlignsUptoCard

/-- THE SECOND FORM's CARD OF 'isobarlaw24.SeriesAsks'. -/
def seriesAsksUptoCard : Claim7 := { stood := { row := seriesAsksUptoRow, standIns := [], harness := (true, "f5309ad66388472153b96a70596900377e81d20835064e0c471e731a34d1d02e"), looks := false }, kinds := [], alts := [], laidByText := true, laidKinds := [.data, .data, .data, .data, .pinned], laidTests := true, laidLooks := .later }
def SeriesAsksUptoCardSaid : Prop := Claim7.holds Tryz.pinned (.plain (OpenSpec.upto seriesAsksSpec)) seriesAsksUptoCard
end Rows
end Go.Proofs.YtjkajkhomklikaaGreatDoor

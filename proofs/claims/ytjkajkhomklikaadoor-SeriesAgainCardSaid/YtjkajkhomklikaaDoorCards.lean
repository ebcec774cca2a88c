/-
  DERIVED. GIVEN WITH THE SEED: THE CARDS: each row of YtjkajkhomklikaaDoorRows.lean that lists a variable, with what it lists TIED to the program's text (the seventh form; the later family's looks); each row that meets fmt, with fmt's text TOLD by the authors' own Lean function (tested against real Go, not proved from fmt's source: count such statements apart). THE CARD IS WHAT COUNTS. Prove the row's statement (the work); the ties are given (YtjkajkhomklikaaDoorTie.lean); close each card by the builder's one call (the guide's Derived/Test/ToyasCard.lean, 'card_holds'). Laid BY PROGRAM, IN A SANDBOX (cutbox-door.mjs). By AI agents, Wed Nov 11 2026. No macro, syntax, notation, axiom, sorry.
-/
import Derived.Test.YtjkajkhomklikaaDoorRows
import GoSem.ClaimSeven
namespace Go.Proofs.YtjkajkhomklikaaDoor
namespace Rows

/-- THE TIED CARD OF 'isobarlaw24.SeriesLost'. -/
def seriesLostCard : Claim7 := { stood := { row := seriesLostRow, standIns := [], harness := (true, "b22317929f851cad16a71e993a43f9fb5d24ca0438bacbcd11eb62fabf2e31e9"), looks := false }, kinds := [], alts := [], laidByText := true, laidKinds := [.data, .data, .data, .data, .pinned], laidTests := true, laidLooks := .later }
def SeriesLostCardSaid : Prop := Claim7.holds Tryd.pinned (.plain (OpenSpec.ofChange seriesLostSpec)) seriesLostCard

/-- THE TIED CARD OF 'isobarlaw24.SeriesBetween'. -/
def seriesBetweenCard : Claim7 := { stood := { row := seriesBetweenRow, standIns := [], harness := (true, "b22317929f851cad16a71e993a43f9fb5d24ca0438bacbcd11eb62fabf2e31e9"), looks := false }, kinds := [], alts := [], laidByText := true, laidKinds := [.data, .data, .data, .data, .pinned], laidTests := true, laidLooks := .later }
def SeriesBetweenCardSaid : Prop := Claim7.holds Tryd.pinned (.plain (OpenSpec.ofChange seriesBetweenSpec)) seriesBetweenCard

/-- THE TIED CARD OF 'isobarlaw24.SeriesAgain'. -/
def seriesAgainCard : Claim7 := { stood := { row := seriesAgainRow, standIns := [], harness := (true, "b22317929f851cad16a71e993a43f9fb5d24ca0438bacbcd11eb62fabf2e31e9"), looks := false }, kinds := [], alts := [], laidByText := true, laidKinds := [.data, .data, .data, .data, .pinned], laidTests := true, laidLooks := .later }
def SeriesAgainCardSaid : Prop := Claim7.holds Tryd.pinned (.plain (OpenSpec.ofChange seriesAgainSpec)) seriesAgainCard

/-- THE SECOND FORM's CARD OF 'isobarlaw24.SeriesLost'. -/
def seriesLostUptoCard : Claim7 := { stood := { row := seriesLostUptoRow, standIns := [], harness := (true, "b22317929f851cad16a71e993a43f9fb5d24ca0438bacbcd11eb62fabf2e31e9"), looks := false }, kinds := [], alts := [], laidByText := true, laidKinds := [.data, .data, .data, .data, .pinned], laidTests := true, laidLooks := .later }
def SeriesLostUptoCardSaid : Prop := Claim7.holds Tryd.pinned (.plain (OpenSpec.upto seriesLostSpec)) seriesLostUptoCard

/-- THE SECOND FORM's CARD OF 'isobarlaw24.SeriesBetween'. -/
def seriesBetweenUptoCard : Claim7 := { stood := { row := seriesBetweenUptoRow, standIns := [], harness := (true, "b22317929f851cad16a71e993a43f9fb5d24ca0438bacbcd11eb62fabf2e31e9"), looks := false }, kinds := [], alts := [], laidByText := true, laidKinds := [.data, .data, .data, .data, .pinned], laidTests := true, laidLooks := .later }
def SeriesBetweenUptoCardSaid : Prop := Claim7.holds Tryd.pinned (.plain (OpenSpec.upto seriesBetweenSpec)) seriesBetweenUptoCard

/-- THE SECOND FORM's CARD OF 'isobarlaw24.SeriesAgain'. -/
def seriesAgainUptoCard : Claim7 := { stood := { row := seriesAgainUptoRow, standIns := [], harness := (true, "b22317929f851cad16a71e993a43f9fb5d24ca0438bacbcd11eb62fabf2e31e9"), looks := false }, kinds := [], alts := [], laidByText := true, laidKinds := [.data, .data, .data, .data, .pinned], laidTests := true, laidLooks := .later }
def SeriesAgainUptoCardSaid : Prop := Claim7.holds Tryd.pinned (.plain (OpenSpec.upto seriesAgainSpec)) seriesAgainUptoCard
end Rows
end Go.Proofs.YtjkajkhomklikaaDoor

/-
  DERIVED. GIVEN WITH THE SEED: THE CARDS: each row of YtkclehdmdnfikaaDoorRows.lean that lists a variable, with what it lists TIED to the program's text (the seventh form; the later family's looks); each row that meets fmt, with fmt's text TOLD by the authors' own Lean function (tested against real Go, not proved from fmt's source: count such statements apart). THE CARD IS WHAT COUNTS. Prove the row's statement (the work); the ties are given (YtkclehdmdnfikaaDoorTie.lean); close each card by the builder's one call (the guide's Derived/Test/ToyasCard.lean, 'card_holds'). Laid BY PROGRAM, IN A SANDBOX (cutbox-door.mjs). By AI agents, Wed Nov 11 2026. No macro, syntax, notation, axiom, sorry.
-/
import Derived.Test.YtkclehdmdnfikaaDoorRows
import GoSem.ClaimSeven
namespace Go.Proofs.YtkclehdmdnfikaaDoor
namespace Rows

/-- THE TIED CARD OF 'isobarlaw16.TrailNames'. -/
def trailNamesCard : Claim7 := { stood := { row := trailNamesRow, standIns := [], harness := (true, "ff9c5384adb907113457203b5e08e2e90eac70c7396dc757d47a17a81a9c6694"), looks := true }, kinds := [], alts := [], laidByText := true, laidKinds := [.data, .pinned], laidTests := true, laidLooks := .later }
def TrailNamesCardSaid : Prop := Claim7.holds Tryd.pinned (.plain (OpenSpec.ofChange trailNamesSpec)) trailNamesCard

/-- THE TIED CARD OF 'isobarlaw16.TrailHeads'. -/
def trailHeadsCard : Claim7 := { stood := { row := trailHeadsRow, standIns := [], harness := (true, "ff9c5384adb907113457203b5e08e2e90eac70c7396dc757d47a17a81a9c6694"), looks := true }, kinds := [], alts := [], laidByText := true, laidKinds := [.data, .pinned], laidTests := true, laidLooks := .later }
def TrailHeadsCardSaid : Prop := Claim7.holds Tryd.pinned (.plain (OpenSpec.ofChange trailHeadsSpec)) trailHeadsCard

/-- THE TIED CARD OF 'isobarlaw22.TokensSplit'. -/
def tokensSplitCard : Claim7 := { stood := { row := tokensSplitRow, standIns := [], harness := (true, "ff9c5384adb907113457203b5e08e2e90eac70c7396dc757d47a17a81a9c6694"), looks := true }, kinds := [], alts := [], laidByText := true, laidKinds := [.data, .data, .data, .sentinel, .sentinel], laidTests := true, laidLooks := .later }
def TokensSplitCardSaid : Prop := Claim7.holds Tryd.pinned (.plain (OpenSpec.ofChange tokensSplitSpec)) tokensSplitCard

/-- THE TIED CARD OF 'isobarlaw22.TokensBlanks'. -/
def tokensBlanksCard : Claim7 := { stood := { row := tokensBlanksRow, standIns := [], harness := (true, "ff9c5384adb907113457203b5e08e2e90eac70c7396dc757d47a17a81a9c6694"), looks := true }, kinds := [], alts := [], laidByText := true, laidKinds := [.data, .data, .data, .sentinel, .sentinel], laidTests := true, laidLooks := .later }
def TokensBlanksCardSaid : Prop := Claim7.holds Tryd.pinned (.plain (OpenSpec.ofChange tokensBlanksSpec)) tokensBlanksCard

/-- THE TIED CARD OF 'isobarlaw03.DecimalBack'. -/
def decimalBackCard : Claim7 := { stood := { row := decimalBackRow, standIns := [], harness := (true, "ff9c5384adb907113457203b5e08e2e90eac70c7396dc757d47a17a81a9c6694"), looks := true }, kinds := [], alts := [], laidByText := true, laidKinds := [.data, .data, .data, .data, .sentinel, .sentinel, .pinned], laidTests := true, laidLooks := .later }
def DecimalBackCardSaid : Prop := Claim7.holds Tryd.pinned (.plain (OpenSpec.ofChange decimalBackSpec)) decimalBackCard

/-- THE TIED CARD OF 'isobarlaw03.DecimalShort'. -/
def decimalShortCard : Claim7 := { stood := { row := decimalShortRow, standIns := [], harness := (true, "ff9c5384adb907113457203b5e08e2e90eac70c7396dc757d47a17a81a9c6694"), looks := true }, kinds := [], alts := [], laidByText := true, laidKinds := [.data, .data, .data, .data, .sentinel, .sentinel, .pinned], laidTests := true, laidLooks := .later }
def DecimalShortCardSaid : Prop := Claim7.holds Tryd.pinned (.plain (OpenSpec.ofChange decimalShortSpec)) decimalShortCard

/-- THE TIED CARD OF 'isobarlaw03.DecimalParses'. -/
def decimalParsesCard : Claim7 := { stood := { row := decimalParsesRow, standIns := [], harness := (true, "ff9c5384adb907113457203b5e08e2e90eac70c7396dc757d47a17a81a9c6694"), looks := true }, kinds := [], alts := [], laidByText := true, laidKinds := [.data, .data, .data, .data, .sentinel, .sentinel, .pinned], laidTests := true, laidLooks := .later }
def DecimalParsesCardSaid : Prop := Claim7.holds Tryd.pinned (.plain (OpenSpec.ofChange decimalParsesSpec)) decimalParsesCard

/-- THE TIED CARD OF 'isobarlaw22.TokensJoin'. -/
def tokensJoinCard : Claim7 := { stood := { row := tokensJoinRow, standIns := [], harness := (true, "ff9c5384adb907113457203b5e08e2e90eac70c7396dc757d47a17a81a9c6694"), looks := true }, kinds := [], alts := [], laidByText := true, laidKinds := [.data, .data, .data, .sentinel, .sentinel], laidTests := true, laidLooks := .later }
def TokensJoinCardSaid : Prop := Claim7.holds Tryd.pinned (.plain (OpenSpec.ofChange tokensJoinSpec)) tokensJoinCard

/-- THE TIED CARD OF 'isobarlaw22.TokensBack'. -/
def tokensBackCard : Claim7 := { stood := { row := tokensBackRow, standIns := [], harness := (true, "ff9c5384adb907113457203b5e08e2e90eac70c7396dc757d47a17a81a9c6694"), looks := true }, kinds := [], alts := [], laidByText := true, laidKinds := [.data, .data, .data, .sentinel, .sentinel], laidTests := true, laidLooks := .later }
def TokensBackCardSaid : Prop := Claim7.holds Tryd.pinned (.plain (OpenSpec.ofChange tokensBackSpec)) tokensBackCard

/-- THE TIED CARD OF 'isobarlaw03.DecimalPrints'. -/
def decimalPrintsCard : Claim7 := { stood := { row := decimalPrintsRow, standIns := [], harness := (true, "ff9c5384adb907113457203b5e08e2e90eac70c7396dc757d47a17a81a9c6694"), looks := true }, kinds := [], alts := [], laidByText := true, laidKinds := [.data, .data, .data, .data, .sentinel, .sentinel, .pinned], laidTests := true, laidLooks := .later }
def DecimalPrintsCardSaid : Prop := Claim7.holds Tryd.pinned (.plain (OpenSpec.ofChange decimalPrintsSpec)) decimalPrintsCard

/-- THE SECOND FORM's CARD OF 'isobarlaw16.TrailNames'. -/
def trailNamesUptoCard : Claim7 := { stood := { row := trailNamesUptoRow, standIns := [], harness := (true, "ff9c5384adb907113457203b5e08e2e90eac70c7396dc757d47a17a81a9c6694"), looks := true }, kinds := [], alts := [], laidByText := true, laidKinds := [.data, .pinned], laidTests := true, laidLooks := .later }
def TrailNamesUptoCardSaid : Prop := Claim7.holds Tryd.pinned (.plain (OpenSpec.upto trailNamesSpec)) trailNamesUptoCard

/-- THE SECOND FORM's CARD OF 'isobarlaw16.TrailHeads'. -/
def trailHeadsUptoCard : Claim7 := { stood := { row := trailHeadsUptoRow, standIns := [], harness := (true, "ff9c5384adb907113457203b5e08e2e90eac70c7396dc757d47a17a81a9c6694"), looks := true }, kinds := [], alts := [], laidByText := true, laidKinds := [.data, .pinned], laidTests := true, laidLooks := .later }
def TrailHeadsUptoCardSaid : Prop := Claim7.holds Tryd.pinned (.plain (OpenSpec.upto trailHeadsSpec)) trailHeadsUptoCard

/-- THE SECOND FORM's CARD OF 'isobarlaw22.TokensSplit'. -/
def tokensSplitUptoCard : Claim7 := { stood := { row := tokensSplitUptoRow, standIns := [], harness := (true, "ff9c5384adb907113457203b5e08e2e90eac70c7396dc757d47a17a81a9c6694"), looks := true }, kinds := [], alts := [], laidByText := true, laidKinds := [.data, .data, .data, .sentinel, .sentinel], laidTests := true, laidLooks := .later }
def TokensSplitUptoCardSaid : Prop := Claim7.holds Tryd.pinned (.plain (OpenSpec.upto tokensSplitSpec)) tokensSplitUptoCard

/-- THE SECOND FORM's CARD OF 'isobarlaw22.TokensBlanks'. -/
def tokensBlanksUptoCard : Claim7 := { stood := { row := tokensBlanksUptoRow, standIns := [], harness := (true, "ff9c5384adb907113457203b5e08e2e90eac70c7396dc757d47a17a81a9c6694"), looks := true }, kinds := [], alts := [], laidByText := true, laidKinds := [.data, .data, .data, .sentinel, .sentinel], laidTests := true, laidLooks := .later }
def TokensBlanksUptoCardSaid : Prop := Claim7.holds Tryd.pinned (.plain (OpenSpec.upto tokensBlanksSpec)) tokensBlanksUptoCard

/-- THE SECOND FORM's CARD OF 'isobarlaw03.DecimalBack'. -/
def decimalBackUptoCard : Claim7 := { stood := { row := decimalBackUptoRow, standIns := [], harness := (true, "ff9c5384adb907113457203b5e08e2e90eac70c7396dc757d47a17a81a9c6694"), looks := true }, kinds := [], alts := [], laidByText := true, laidKinds := [.data, .data, .data, .data, .sentinel, .sentinel, .pinned], laidTests := true, laidLooks := .later }
def DecimalBackUptoCardSaid : Prop := Claim7.holds Tryd.pinned (.plain (OpenSpec.upto decimalBackSpec)) decimalBackUptoCard

/-- THE SECOND FORM's CARD OF 'isobarlaw03.DecimalShort'. -/
def decimalShortUptoCard : Claim7 := { stood := { row := decimalShortUptoRow, standIns := [], harness := (true, "ff9c5384adb907113457203b5e08e2e90eac70c7396dc757d47a17a81a9c6694"), looks := true }, kinds := [], alts := [], laidByText := true, laidKinds := [.data, .data, .data, .data, .sentinel, .sentinel, .pinned], laidTests := true, laidLooks := .later }
def DecimalShortUptoCardSaid : Prop := Claim7.holds Tryd.pinned (.plain (OpenSpec.upto decimalShortSpec)) decimalShortUptoCard

/-- THE SECOND FORM's CARD OF 'isobarlaw03.DecimalParses'. -/
def decimalParsesUptoCard : Claim7 := { stood := { row := decimalParsesUptoRow, standIns := [], harness := (true, "ff9c5384adb907113457203b5e08e2e90eac70c7396dc757d47a17a81a9c6694"), looks := true }, kinds := [], alts := [], laidByText := true, laidKinds := [.data, .data, .data, .data, .sentinel, .sentinel, .pinned], laidTests := true, laidLooks := .later }
def DecimalParsesUptoCardSaid : Prop := Claim7.holds Tryd.pinned (.plain (OpenSpec.upto decimalParsesSpec)) decimalParsesUptoCard

/-- THE SECOND FORM's CARD OF 'isobarlaw22.TokensJoin'. -/
def tokensJoinUptoCard : Claim7 := { stood := { row := tokensJoinUptoRow, standIns := [], harness := (true, "ff9c5384adb907113457203b5e08e2e90eac70c7396dc757d47a17a81a9c6694"), looks := true }, kinds := [], alts := [], laidByText := true, laidKinds := [.data, .data, .data, .sentinel, .sentinel], laidTests := true, laidLooks := .later }
def TokensJoinUptoCardSaid : Prop := Claim7.holds Tryd.pinned (.plain (OpenSpec.upto tokensJoinSpec)) tokensJoinUptoCard

/-- THE SECOND FORM's CARD OF 'isobarlaw22.TokensBack'. -/
def tokensBackUptoCard : Claim7 := { stood := { row := tokensBackUptoRow, standIns := [], harness := (true, "ff9c5384adb907113457203b5e08e2e90eac70c7396dc757d47a17a81a9c6694"), looks := true }, kinds := [], alts := [], laidByText := true, laidKinds := [.data, .data, .data, .sentinel, .sentinel], laidTests := true, laidLooks := .later }
def TokensBackUptoCardSaid : Prop := Claim7.holds Tryd.pinned (.plain (OpenSpec.upto tokensBackSpec)) tokensBackUptoCard

/-- THE SECOND FORM's CARD OF 'isobarlaw03.DecimalPrints'. -/
def decimalPrintsUptoCard : Claim7 := { stood := { row := decimalPrintsUptoRow, standIns := [], harness := (true, "ff9c5384adb907113457203b5e08e2e90eac70c7396dc757d47a17a81a9c6694"), looks := true }, kinds := [], alts := [], laidByText := true, laidKinds := [.data, .data, .data, .data, .sentinel, .sentinel, .pinned], laidTests := true, laidLooks := .later }
def DecimalPrintsUptoCardSaid : Prop := Claim7.holds Tryd.pinned (.plain (OpenSpec.upto decimalPrintsSpec)) decimalPrintsUptoCard
end Rows
end Go.Proofs.YtkclehdmdnfikaaDoor

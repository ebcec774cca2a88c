/-
  DERIVED. GIVEN WITH THE SEED: THE CARDS: each row of YtalfhchbmhoagaaGreatDoorRows.lean that lists a variable, with what it lists TIED to the program's text (the seventh form; the later family's looks); each row that meets fmt, with fmt's text TOLD by the authors' own Lean function (tested against real Go, not proved from fmt's source: count such statements apart). THE CARD IS WHAT COUNTS. Prove the row's statement (the work); the ties are given (YtalfhchbmhoagaaGreatDoorTie.lean); close each card by the builder's one call (the guide's Derived/Test/ToyasCard.lean, 'card_holds'). Laid BY PROGRAM, IN A SANDBOX (cutbox-door.mjs). By AI agents, Wed Nov 11 2026. No macro, syntax, notation, axiom, sorry.
-/
import Derived.Test.YtalfhchbmhoagaaGreatDoorRows
import GoSem.ClaimSeven
namespace Go.Proofs.YtalfhchbmhoagaaGreatDoor
namespace Rows

/-- THE TIED CARD OF 'isobarlaw23.TargetParses'. -/
def targetParsesCard : Claim7 := { stood := { row := targetParsesRow, standIns := [], harness := (true, "eec37eaaeb2f5d6c741b77cd7ae6aa761565a0c138b12b40530b224dabc25693"), looks := true }, kinds := [], alts := [], laidByText := true, laidKinds := [.data, .data, .data, .data, .sentinel, .sentinel, .listed, .data, .data, .pinned, .pinned], laidTests := true, laidLooks := .later }
def TargetParsesCardSaid : Prop := Claim7.holds Tryz.pinned (.plain (OpenSpec.ofChange targetParsesSpec)) targetParsesCard

/-- THE TIED CARD OF 'isobarlaw23.TargetPrints'. -/
def targetPrintsCard : Claim7 := { stood := { row := targetPrintsRow, standIns := [], harness := (true, "eec37eaaeb2f5d6c741b77cd7ae6aa761565a0c138b12b40530b224dabc25693"), looks := true }, kinds := [], alts := [], laidByText := true, laidKinds := [.data, .data, .data, .data, .sentinel, .sentinel, .listed, .data, .data, .pinned, .pinned], laidTests := true, laidLooks := .later }
def TargetPrintsCardSaid : Prop := Claim7.holds Tryz.pinned (.plain (OpenSpec.ofChange targetPrintsSpec)) targetPrintsCard

/-- THE TIED CARD OF 'isobarlaw23.TargetBack'. -/
def targetBackCard : Claim7 := { stood := { row := targetBackRow, standIns := [], harness := (true, "eec37eaaeb2f5d6c741b77cd7ae6aa761565a0c138b12b40530b224dabc25693"), looks := true }, kinds := [], alts := [], laidByText := true, laidKinds := [.data, .data, .data, .data, .sentinel, .sentinel, .listed, .data, .data, .pinned, .pinned], laidTests := true, laidLooks := .later }
def TargetBackCardSaid : Prop := Claim7.holds Tryz.pinned (.plain (OpenSpec.ofChange targetBackSpec)) targetBackCard

/-- THE TIED CARD OF 'isobarlaw23.TargetCalls'. -/
def targetCallsCard : Claim7 := { stood := { row := targetCallsRow, standIns := [], harness := (true, "eec37eaaeb2f5d6c741b77cd7ae6aa761565a0c138b12b40530b224dabc25693"), looks := true }, kinds := [], alts := [], laidByText := true, laidKinds := [.data, .data, .data, .data, .sentinel, .sentinel, .listed, .data, .data, .pinned, .pinned], laidTests := true, laidLooks := .later }
def TargetCallsCardSaid : Prop := Claim7.holds Tryz.pinned (.plain (OpenSpec.ofChange targetCallsSpec)) targetCallsCard

/-- THE SECOND FORM's CARD OF 'isobarlaw23.TargetParses'. -/
def targetParsesUptoCard : Claim7 := { stood := { row := targetParsesUptoRow, standIns := [], harness := (true, "eec37eaaeb2f5d6c741b77cd7ae6aa761565a0c138b12b40530b224dabc25693"), looks := true }, kinds := [], alts := [], laidByText := true, laidKinds := [.data, .data, .data, .data, .sentinel, .sentinel, .listed, .data, .data, .pinned, .pinned], laidTests := true, laidLooks := .later }
def TargetParsesUptoCardSaid : Prop := Claim7.holds Tryz.pinned (.plain (OpenSpec.upto targetParsesSpec)) targetParsesUptoCard

/-- THE SECOND FORM's CARD OF 'isobarlaw23.TargetPrints'. -/
def targetPrintsUptoCard : Claim7 := { stood := { row := targetPrintsUptoRow, standIns := [], harness := (true, "eec37eaaeb2f5d6c741b77cd7ae6aa761565a0c138b12b40530b224dabc25693"), looks := true }, kinds := [], alts := [], laidByText := true, laidKinds := [.data, .data, .data, .data, .sentinel, .sentinel, .listed, .data, .data, .pinned, .pinned], laidTests := true, laidLooks := .later }
def TargetPrintsUptoCardSaid : Prop := Claim7.holds Tryz.pinned (.plain (OpenSpec.upto targetPrintsSpec)) targetPrintsUptoCard

/-- THE SECOND FORM's CARD OF 'isobarlaw23.TargetBack'. -/
def targetBackUptoCard : Claim7 := { stood := { row := targetBackUptoRow, standIns := [], harness := (true, "eec37eaaeb2f5d6c741b77cd7ae6aa761565a0c138b12b40530b224dabc25693"), looks := true }, kinds := [], alts := [], laidByText := true, laidKinds := [.data, .data, .data, .data, .sentinel, .sentinel, .listed, .data, .data, .pinned, .pinned], laidTests := true, laidLooks := .later }
def TargetBackUptoCardSaid : Prop := Claim7.holds Tryz.pinned (.plain (OpenSpec.upto targetBackSpec)) targetBackUptoCard

/-- THE SECOND FORM's CARD OF 'isobarlaw23.TargetCalls'. -/
def targetCallsUptoCard : Claim7 := { stood := { row := targetCallsUptoRow, standIns := [], harness := (true, "eec37eaaeb2f5d6c741b77cd7ae6aa761565a0c138b12b40530b224dabc25693"), looks := true }, kinds := [], alts := [], laidByText := true, laidKinds := [.data, .data, .data, .data, .sentinel, .sentinel, .listed, .data, .data, .pinned, .pinned], laidTests := true, laidLooks := .later }
def TargetCallsUptoCardSaid : Prop := Claim7.holds Tryz.pinned (.plain (OpenSpec.upto targetCallsSpec)) targetCallsUptoCard
end Rows
end Go.Proofs.YtalfhchbmhoagaaGreatDoor

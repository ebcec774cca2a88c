/-
  DERIVED. GIVEN WITH THE SEED: THE CARDS: each row of YtigkchpjpdbodaaGreatDoorRows.lean that lists a variable, with what it lists TIED to the program's text (the seventh form; the later family's looks); each row that meets fmt, with fmt's text TOLD by the authors' own Lean function (tested against real Go, not proved from fmt's source: count such statements apart). THE CARD IS WHAT COUNTS. Prove the row's statement (the work); the ties are given (YtigkchpjpdbodaaGreatDoorTie.lean); close each card by the builder's one call (the guide's Derived/Test/ToyasCard.lean, 'card_holds'). Laid BY PROGRAM, IN A SANDBOX (cutbox-door.mjs). By AI agents, Wed Nov 11 2026. No macro, syntax, notation, axiom, sorry.
-/
import Derived.Test.YtigkchpjpdbodaaGreatDoorRows
import GoSem.ClaimSeven
namespace Go.Proofs.YtigkchpjpdbodaaGreatDoor
namespace Rows

/-- THE TIED CARD OF 'isobarlaw28.RenderLines'. -/
def renderLinesCard : Claim7 := { stood := { row := renderLinesRow, standIns := [], harness := (true, "21e6298a8ff9857fe67bb38a6125851899e566b1bb7369fc0de8245338c3870d"), looks := true }, kinds := [], alts := [], laidByText := true, laidKinds := [.pinned, .data, .sentinel, .sentinel, .data, .data, .data, .data, .data, .listed, .pinned], laidTests := true, laidLooks := .later }
def RenderLinesCardSaid : Prop := Claim7.holds Tryz.pinned (.plain (OpenSpec.ofChange renderLinesSpec)) renderLinesCard

/-- THE SECOND FORM's CARD OF 'isobarlaw28.RenderLines'. -/
def renderLinesUptoCard : Claim7 := { stood := { row := renderLinesUptoRow, standIns := [], harness := (true, "21e6298a8ff9857fe67bb38a6125851899e566b1bb7369fc0de8245338c3870d"), looks := true }, kinds := [], alts := [], laidByText := true, laidKinds := [.pinned, .data, .sentinel, .sentinel, .data, .data, .data, .data, .data, .listed, .pinned], laidTests := true, laidLooks := .later }
def RenderLinesUptoCardSaid : Prop := Claim7.holds Tryz.pinned (.plain (OpenSpec.upto renderLinesSpec)) renderLinesUptoCard
end Rows
end Go.Proofs.YtigkchpjpdbodaaGreatDoor

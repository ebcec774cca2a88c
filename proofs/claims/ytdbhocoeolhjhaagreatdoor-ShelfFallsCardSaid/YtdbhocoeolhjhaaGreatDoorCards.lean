/-
  DERIVED. GIVEN WITH THE SEED: THE CARDS: each row of YtdbhocoeolhjhaaGreatDoorRows.lean that lists a variable, with what it lists TIED to the program's text (the seventh form; the later family's looks); each row that meets fmt, with fmt's text TOLD by the authors' own Lean function (tested against real Go, not proved from fmt's source: count such statements apart). THE CARD IS WHAT COUNTS. Prove the row's statement (the work); the ties are given (YtdbhocoeolhjhaaGreatDoorTie.lean); close each card by the builder's one call (the guide's Derived/Test/ToyasCard.lean, 'card_holds'). Laid BY PROGRAM, IN A SANDBOX (cutbox-door.mjs). By AI agents, Wed Nov 11 2026. No macro, syntax, notation, axiom, sorry.
-/
import Derived.Test.YtdbhocoeolhjhaaGreatDoorRows
import GoSem.ClaimSeven
namespace Go.Proofs.YtdbhocoeolhjhaaGreatDoor
namespace Rows

/-- THE TIED CARD OF 'isobarlaw21.ShelfPlays'. -/
def shelfPlaysCard : Claim7 := { stood := { row := shelfPlaysRow, standIns := [], harness := (true, "401ee0bb4ff5e615c932a5be95cd3973cec291ae7f7d160821d4b3326a133d54"), looks := true }, kinds := [], alts := [], laidByText := true, laidKinds := [.data, .data, .data, .data, .data, .pinned], laidTests := true, laidLooks := .later }
def ShelfPlaysCardSaid : Prop := Claim7.holds Tryz.pinned (.plain (OpenSpec.ofChange shelfPlaysSpec)) shelfPlaysCard

/-- THE TIED CARD OF 'isobarlaw21.ShelfCompacts'. -/
def shelfCompactsCard : Claim7 := { stood := { row := shelfCompactsRow, standIns := [], harness := (true, "401ee0bb4ff5e615c932a5be95cd3973cec291ae7f7d160821d4b3326a133d54"), looks := true }, kinds := [], alts := [], laidByText := true, laidKinds := [.data, .data, .data, .data, .data, .pinned], laidTests := true, laidLooks := .later }
def ShelfCompactsCardSaid : Prop := Claim7.holds Tryz.pinned (.plain (OpenSpec.ofChange shelfCompactsSpec)) shelfCompactsCard

/-- THE TIED CARD OF 'isobarlaw21.ShelfFalls'. -/
def shelfFallsCard : Claim7 := { stood := { row := shelfFallsRow, standIns := [], harness := (true, "401ee0bb4ff5e615c932a5be95cd3973cec291ae7f7d160821d4b3326a133d54"), looks := true }, kinds := [], alts := [], laidByText := true, laidKinds := [.data, .data, .data, .data, .sentinel, .sentinel, .data, .pinned], laidTests := true, laidLooks := .later }
def ShelfFallsCardSaid : Prop := Claim7.holds Tryz.pinned (.plain (OpenSpec.ofChange shelfFallsSpec)) shelfFallsCard

/-- THE TIED CARD OF 'isobarlaw21.ShelfSure'. -/
def shelfSureCard : Claim7 := { stood := { row := shelfSureRow, standIns := [], harness := (true, "401ee0bb4ff5e615c932a5be95cd3973cec291ae7f7d160821d4b3326a133d54"), looks := true }, kinds := [], alts := [], laidByText := true, laidKinds := [.data, .data, .data, .data, .sentinel, .sentinel, .data, .pinned], laidTests := true, laidLooks := .later }
def ShelfSureCardSaid : Prop := Claim7.holds Tryz.pinned (.plain (OpenSpec.ofChange shelfSureSpec)) shelfSureCard

/-- THE SECOND FORM's CARD OF 'isobarlaw21.ShelfPlays'. -/
def shelfPlaysUptoCard : Claim7 := { stood := { row := shelfPlaysUptoRow, standIns := [], harness := (true, "401ee0bb4ff5e615c932a5be95cd3973cec291ae7f7d160821d4b3326a133d54"), looks := true }, kinds := [], alts := [], laidByText := true, laidKinds := [.data, .data, .data, .data, .data, .pinned], laidTests := true, laidLooks := .later }
def ShelfPlaysUptoCardSaid : Prop := Claim7.holds Tryz.pinned (.plain (OpenSpec.upto shelfPlaysSpec)) shelfPlaysUptoCard

/-- THE SECOND FORM's CARD OF 'isobarlaw21.ShelfCompacts'. -/
def shelfCompactsUptoCard : Claim7 := { stood := { row := shelfCompactsUptoRow, standIns := [], harness := (true, "401ee0bb4ff5e615c932a5be95cd3973cec291ae7f7d160821d4b3326a133d54"), looks := true }, kinds := [], alts := [], laidByText := true, laidKinds := [.data, .data, .data, .data, .data, .pinned], laidTests := true, laidLooks := .later }
def ShelfCompactsUptoCardSaid : Prop := Claim7.holds Tryz.pinned (.plain (OpenSpec.upto shelfCompactsSpec)) shelfCompactsUptoCard

/-- THE SECOND FORM's CARD OF 'isobarlaw21.ShelfFalls'. -/
def shelfFallsUptoCard : Claim7 := { stood := { row := shelfFallsUptoRow, standIns := [], harness := (true, "401ee0bb4ff5e615c932a5be95cd3973cec291ae7f7d160821d4b3326a133d54"), looks := true }, kinds := [], alts := [], laidByText := true, laidKinds := [.data, .data, .data, .data, .sentinel, .sentinel, .data, .pinned], laidTests := true, laidLooks := .later }
def ShelfFallsUptoCardSaid : Prop := Claim7.holds Tryz.pinned (.plain (OpenSpec.upto shelfFallsSpec)) shelfFallsUptoCard

/-- THE SECOND FORM's CARD OF 'isobarlaw21.ShelfSure'. -/
def shelfSureUptoCard : Claim7 := { stood := { row := shelfSureUptoRow, standIns := [], harness := (true, "401ee0bb4ff5e615c932a5be95cd3973cec291ae7f7d160821d4b3326a133d54"), looks := true }, kinds := [], alts := [], laidByText := true, laidKinds := [.data, .data, .data, .data, .sentinel, .sentinel, .data, .pinned], laidTests := true, laidLooks := .later }
def ShelfSureUptoCardSaid : Prop := Claim7.holds Tryz.pinned (.plain (OpenSpec.upto shelfSureSpec)) shelfSureUptoCard
end Rows
end Go.Proofs.YtdbhocoeolhjhaaGreatDoor

/-
  DERIVED. GIVEN WITH THE SEED: THE CARDS: each row of YtddpegkbmdcgbaaDoorRows.lean that lists a variable, with what it lists TIED to the program's text (the seventh form; the later family's looks); each row that meets fmt, with fmt's text TOLD by the authors' own Lean function (tested against real Go, not proved from fmt's source: count such statements apart). THE CARD IS WHAT COUNTS. Prove the row's statement (the work); the ties are given (YtddpegkbmdcgbaaDoorTie.lean); close each card by the builder's one call (the guide's Derived/Test/ToyasCard.lean, 'card_holds'). Laid BY PROGRAM, IN A SANDBOX (cutbox-door.mjs). By AI agents, Wed Nov 11 2026. No macro, syntax, notation, axiom, sorry.
-/
import Derived.Test.YtddpegkbmdcgbaaDoorRows
import GoSem.ClaimSeven
namespace Go.Proofs.YtddpegkbmdcgbaaDoor
namespace Rows

/-- THE TIED CARD OF 'isobarlaw18.LineBack'. -/
def lineBackCard : Claim7 := { stood := { row := lineBackRow, standIns := [], harness := (true, "8672da3ccb10d3b4bc8f65f1dffeea3320874bab9dc863fe5bbe9db43c24f14c"), looks := true }, kinds := [], alts := [], laidByText := true, laidKinds := [.data, .data, .data, .data, .sentinel, .sentinel, .pinned], laidTests := true, laidLooks := .later }
def LineBackCardSaid : Prop := Claim7.holds Tryd.pinned (.plain (OpenSpec.ofChange lineBackSpec)) lineBackCard

/-- THE TIED CARD OF 'isobarlaw18.LineBlanks'. -/
def lineBlanksCard : Claim7 := { stood := { row := lineBlanksRow, standIns := [], harness := (true, "8672da3ccb10d3b4bc8f65f1dffeea3320874bab9dc863fe5bbe9db43c24f14c"), looks := true }, kinds := [], alts := [], laidByText := true, laidKinds := [.data, .data, .data, .data, .sentinel, .sentinel, .pinned], laidTests := true, laidLooks := .later }
def LineBlanksCardSaid : Prop := Claim7.holds Tryd.pinned (.plain (OpenSpec.ofChange lineBlanksSpec)) lineBlanksCard

/-- THE TIED CARD OF 'isobarlaw18.LineNow'. -/
def lineNowCard : Claim7 := { stood := { row := lineNowRow, standIns := [], harness := (true, "8672da3ccb10d3b4bc8f65f1dffeea3320874bab9dc863fe5bbe9db43c24f14c"), looks := true }, kinds := [], alts := [], laidByText := true, laidKinds := [.data, .data, .data, .data, .sentinel, .sentinel, .pinned], laidTests := true, laidLooks := .later }
def LineNowCardSaid : Prop := Claim7.holds Tryd.pinned (.plain (OpenSpec.ofChange lineNowSpec)) lineNowCard

/-- THE SECOND FORM's CARD OF 'isobarlaw18.LineBack'. -/
def lineBackUptoCard : Claim7 := { stood := { row := lineBackUptoRow, standIns := [], harness := (true, "8672da3ccb10d3b4bc8f65f1dffeea3320874bab9dc863fe5bbe9db43c24f14c"), looks := true }, kinds := [], alts := [], laidByText := true, laidKinds := [.data, .data, .data, .data, .sentinel, .sentinel, .pinned], laidTests := true, laidLooks := .later }
def LineBackUptoCardSaid : Prop := Claim7.holds Tryd.pinned (.plain (OpenSpec.upto lineBackSpec)) lineBackUptoCard

/-- THE SECOND FORM's CARD OF 'isobarlaw18.LineBlanks'. -/
def lineBlanksUptoCard : Claim7 := { stood := { row := lineBlanksUptoRow, standIns := [], harness := (true, "8672da3ccb10d3b4bc8f65f1dffeea3320874bab9dc863fe5bbe9db43c24f14c"), looks := true }, kinds := [], alts := [], laidByText := true, laidKinds := [.data, .data, .data, .data, .sentinel, .sentinel, .pinned], laidTests := true, laidLooks := .later }
def LineBlanksUptoCardSaid : Prop := Claim7.holds Tryd.pinned (.plain (OpenSpec.upto lineBlanksSpec)) lineBlanksUptoCard

/-- THE SECOND FORM's CARD OF 'isobarlaw18.LineNow'. -/
def lineNowUptoCard : Claim7 := { stood := { row := lineNowUptoRow, standIns := [], harness := (true, "8672da3ccb10d3b4bc8f65f1dffeea3320874bab9dc863fe5bbe9db43c24f14c"), looks := true }, kinds := [], alts := [], laidByText := true, laidKinds := [.data, .data, .data, .data, .sentinel, .sentinel, .pinned], laidTests := true, laidLooks := .later }
def LineNowUptoCardSaid : Prop := Claim7.holds Tryd.pinned (.plain (OpenSpec.upto lineNowSpec)) lineNowUptoCard
end Rows
end Go.Proofs.YtddpegkbmdcgbaaDoor

/-
  DERIVED. GIVEN WITH THE SEED: THE CARDS: each row of YtdgpnmlialmaaaaGreatDoorRows.lean that lists a variable, with what it lists TIED to the program's text (the seventh form; the later family's looks); each row that meets fmt, with fmt's text TOLD by the authors' own Lean function (tested against real Go, not proved from fmt's source: count such statements apart). THE CARD IS WHAT COUNTS. Prove the row's statement (the work); the ties are given (YtdgpnmlialmaaaaGreatDoorTie.lean); close each card by the builder's one call (the guide's Derived/Test/ToyasCard.lean, 'card_holds'). Laid BY PROGRAM, IN A SANDBOX (cutbox-door.mjs). By AI agents, Wed Nov 11 2026. No macro, syntax, notation, axiom, sorry.
-/
import Derived.Test.YtdgpnmlialmaaaaGreatDoorRows
import GoSem.ClaimSeven
namespace Go.Proofs.YtdgpnmlialmaaaaGreatDoor
namespace Rows

/-- THE TIED CARD OF 'isobarlaw26.BlendApplies'. -/
def blendAppliesCard : Claim7 := { stood := { row := blendAppliesRow, standIns := [], harness := (true, "351b96c8d04eb1a20871166d34f7500c682a62c65174d467b4bec1461231aae0"), looks := false }, kinds := [], alts := [], laidByText := true, laidKinds := [.data, .data, .data, .data, .listed, .data, .pinned], laidTests := true, laidLooks := .later }
def BlendAppliesCardSaid : Prop := Claim7.holds Tryz.pinned (.plain (OpenSpec.ofChange blendAppliesSpec)) blendAppliesCard

/-- THE TIED CARD OF 'isobarlaw26.BlendRanks'. -/
def blendRanksCard : Claim7 := { stood := { row := blendRanksRow, standIns := [], harness := (true, "351b96c8d04eb1a20871166d34f7500c682a62c65174d467b4bec1461231aae0"), looks := false }, kinds := [], alts := [], laidByText := true, laidKinds := [.data, .data, .data, .data, .listed, .data, .pinned], laidTests := true, laidLooks := .later }
def BlendRanksCardSaid : Prop := Claim7.holds Tryz.pinned (.plain (OpenSpec.ofChange blendRanksSpec)) blendRanksCard

/-- THE TIED CARD OF 'isobarlaw26.BlendOrder'. -/
def blendOrderCard : Claim7 := { stood := { row := blendOrderRow, standIns := [], harness := (true, "351b96c8d04eb1a20871166d34f7500c682a62c65174d467b4bec1461231aae0"), looks := false }, kinds := [], alts := [], laidByText := true, laidKinds := [.data, .data, .data, .data, .listed, .data, .pinned], laidTests := true, laidLooks := .later }
def BlendOrderCardSaid : Prop := Claim7.holds Tryz.pinned (.plain (OpenSpec.ofChange blendOrderSpec)) blendOrderCard

/-- THE TIED CARD OF 'isobarlaw26.BlendOne'. -/
def blendOneCard : Claim7 := { stood := { row := blendOneRow, standIns := [], harness := (true, "351b96c8d04eb1a20871166d34f7500c682a62c65174d467b4bec1461231aae0"), looks := false }, kinds := [], alts := [], laidByText := true, laidKinds := [.data, .data, .data, .data, .listed, .data, .pinned], laidTests := true, laidLooks := .later }
def BlendOneCardSaid : Prop := Claim7.holds Tryz.pinned (.plain (OpenSpec.ofChange blendOneSpec)) blendOneCard

/-- THE TIED CARD OF 'isobarlaw26.BlendRises'. -/
def blendRisesCard : Claim7 := { stood := { row := blendRisesRow, standIns := [], harness := (true, "351b96c8d04eb1a20871166d34f7500c682a62c65174d467b4bec1461231aae0"), looks := false }, kinds := [], alts := [], laidByText := true, laidKinds := [.data, .data, .data, .data, .listed, .data, .pinned], laidTests := true, laidLooks := .later }
def BlendRisesCardSaid : Prop := Claim7.holds Tryz.pinned (.plain (OpenSpec.ofChange blendRisesSpec)) blendRisesCard

/-- THE SECOND FORM's CARD OF 'isobarlaw26.BlendApplies'. -/
def blendAppliesUptoCard : Claim7 := { stood := { row := blendAppliesUptoRow, standIns := [], harness := (true, "351b96c8d04eb1a20871166d34f7500c682a62c65174d467b4bec1461231aae0"), looks := false }, kinds := [], alts := [], laidByText := true, laidKinds := [.data, .data, .data, .data, .listed, .data, .pinned], laidTests := true, laidLooks := .later }
def BlendAppliesUptoCardSaid : Prop := Claim7.holds Tryz.pinned (.plain (OpenSpec.upto blendAppliesSpec)) blendAppliesUptoCard

/-- THE SECOND FORM's CARD OF 'isobarlaw26.BlendRanks'. -/
def blendRanksUptoCard : Claim7 := { stood := { row := blendRanksUptoRow, standIns := [], harness := (true, "351b96c8d04eb1a20871166d34f7500c682a62c65174d467b4bec1461231aae0"), looks := false }, kinds := [], alts := [], laidByText := true, laidKinds := [.data, .data, .data, .data, .listed, .data, .pinned], laidTests := true, laidLooks := .later }
def BlendRanksUptoCardSaid : Prop := Claim7.holds Tryz.pinned (.plain (OpenSpec.upto blendRanksSpec)) blendRanksUptoCard

/-- THE SECOND FORM's CARD OF 'isobarlaw26.BlendOrder'. -/
def blendOrderUptoCard : Claim7 := { stood := { row := blendOrderUptoRow, standIns := [], harness := (true, "351b96c8d04eb1a20871166d34f7500c682a62c65174d467b4bec1461231aae0"), looks := false }, kinds := [], alts := [], laidByText := true, laidKinds := [.data, .data, .data, .data, .listed, .data, .pinned], laidTests := true, laidLooks := .later }
def BlendOrderUptoCardSaid : Prop := Claim7.holds Tryz.pinned (.plain (OpenSpec.upto blendOrderSpec)) blendOrderUptoCard

/-- THE SECOND FORM's CARD OF 'isobarlaw26.BlendOne'. -/
def blendOneUptoCard : Claim7 := { stood := { row := blendOneUptoRow, standIns := [], harness := (true, "351b96c8d04eb1a20871166d34f7500c682a62c65174d467b4bec1461231aae0"), looks := false }, kinds := [], alts := [], laidByText := true, laidKinds := [.data, .data, .data, .data, .listed, .data, .pinned], laidTests := true, laidLooks := .later }
def BlendOneUptoCardSaid : Prop := Claim7.holds Tryz.pinned (.plain (OpenSpec.upto blendOneSpec)) blendOneUptoCard

/-- THE SECOND FORM's CARD OF 'isobarlaw26.BlendRises'. -/
def blendRisesUptoCard : Claim7 := { stood := { row := blendRisesUptoRow, standIns := [], harness := (true, "351b96c8d04eb1a20871166d34f7500c682a62c65174d467b4bec1461231aae0"), looks := false }, kinds := [], alts := [], laidByText := true, laidKinds := [.data, .data, .data, .data, .listed, .data, .pinned], laidTests := true, laidLooks := .later }
def BlendRisesUptoCardSaid : Prop := Claim7.holds Tryz.pinned (.plain (OpenSpec.upto blendRisesSpec)) blendRisesUptoCard
end Rows
end Go.Proofs.YtdgpnmlialmaaaaGreatDoor

/- The shelf's layings at this translation. -/
import Derived.Shelf.Strings.Builder1
import Derived.Shelf.Spec.SlicesGrow
import Derived.Test.YtalfhchbmhoagaaGreatDoorProg
namespace Go.Proofs
open Go.Shelf
end Go.Proofs

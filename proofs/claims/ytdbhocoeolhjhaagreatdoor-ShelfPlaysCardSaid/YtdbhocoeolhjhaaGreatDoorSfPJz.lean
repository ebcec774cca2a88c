/- The row's closed facts, together. -/
import Derived.Test.YtdbhocoeolhjhaaGreatDoorSfPJa
import Derived.Test.YtdbhocoeolhjhaaGreatDoorSfPJb
import Derived.Test.YtdbhocoeolhjhaaGreatDoorSfPJc
import Derived.Test.YtdbhocoeolhjhaaGreatDoorSfPJd
import Derived.Test.YtdbhocoeolhjhaaGreatDoorSfPJe
import Derived.Test.YtdbhocoeolhjhaaGreatDoorSfPJf
import Derived.Test.YtdbhocoeolhjhaaGreatDoorSfPJg
import Derived.Test.YtdbhocoeolhjhaaGreatDoorSfPJh
namespace Go.Proofs.YtdbhocoeolhjhaaGreatDoor
open Go
theorem andB {a b : Bool} (h1 : a = true) (h2 : b = true) : (a && b) = true := by rw [h1, h2]; rfl
set_option maxRecDepth 100000 in
theorem joined_facts : joinedFacts Tryz.prog 3 Tryz.f3 Rows.shelfPlaysSpec Rows.shelfPlaysRow = true := by
  unfold joinedFacts
  exact (andB (andB (andB (andB (andB (andB (andB (andB (andB (andB (andB (andB (andB (andB (andB (andB (andB (andB (andB (andB (andB (andB (andB (andB (andB (andB (andB (andB (andB (andB (andB jf_0 jf_1) jf_2) jf_3) jf_4) jf_5) jf_6) jf_7) jf_8) jf_9) jf_10) jf_11) jf_12) jf_13) jf_14) jf_15) jf_16) jf_17) jf_18) jf_19) jf_20) jf_21) jf_22) jf_23) jf_24) jf_25) jf_26) jf_27) jf_28) jf_29) jf_30) jf_31)
end Go.Proofs.YtdbhocoeolhjhaaGreatDoor

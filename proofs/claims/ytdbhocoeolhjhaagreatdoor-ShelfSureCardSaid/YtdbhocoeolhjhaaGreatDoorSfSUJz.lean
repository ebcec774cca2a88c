/- The row's closed facts, together. -/
import Derived.Test.YtdbhocoeolhjhaaGreatDoorSfSUJa
import Derived.Test.YtdbhocoeolhjhaaGreatDoorSfSUJb
import Derived.Test.YtdbhocoeolhjhaaGreatDoorSfSUJc
import Derived.Test.YtdbhocoeolhjhaaGreatDoorSfSUJd
import Derived.Test.YtdbhocoeolhjhaaGreatDoorSfSUJe
import Derived.Test.YtdbhocoeolhjhaaGreatDoorSfSUJf
import Derived.Test.YtdbhocoeolhjhaaGreatDoorSfSUJg
import Derived.Test.YtdbhocoeolhjhaaGreatDoorSfSUJh
namespace Go.Proofs.YtdbhocoeolhjhaaGreatDoor
open Go
theorem andB {a b : Bool} (h1 : a = true) (h2 : b = true) : (a && b) = true := by rw [h1, h2]; rfl
set_option maxRecDepth 100000 in
theorem zuk : joinedFacts Tryz.prog 6 Tryz.f6 Rows.shelfSureSpec Rows.shelfSureRow = true := by
  unfold joinedFacts
  exact (andB (andB (andB (andB (andB (andB (andB (andB (andB (andB (andB (andB (andB (andB (andB (andB (andB (andB (andB (andB (andB (andB (andB (andB (andB (andB (andB (andB (andB (andB (andB jf_0 jf_1) jf_2) jf_3) jf_4) jf_5) jf_6) jf_7) jf_8) jf_9) zBp) zBq) zAN) zBe) zAL) zAF) zBd) zAW) zAY) zBm) zAR) zBb) zBw) zAX) zBc) zAS) zAE) zAU) zAK) zAT) zAZ) zAM)
end Go.Proofs.YtdbhocoeolhjhaaGreatDoor

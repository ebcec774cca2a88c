/- The row's closed facts, together. -/
import Derived.Test.YtdbhocoeolhjhaaGreatDoorSfK2Ja
import Derived.Test.YtdbhocoeolhjhaaGreatDoorSfK2Jb
import Derived.Test.YtdbhocoeolhjhaaGreatDoorSfK2Jc
import Derived.Test.YtdbhocoeolhjhaaGreatDoorSfK2Jd
import Derived.Test.YtdbhocoeolhjhaaGreatDoorSfK2Je
import Derived.Test.YtdbhocoeolhjhaaGreatDoorSfK2Jf
import Derived.Test.YtdbhocoeolhjhaaGreatDoorSfK2Jg
import Derived.Test.YtdbhocoeolhjhaaGreatDoorSfK2Jh
namespace Go.Proofs.YtdbhocoeolhjhaaGreatDoor
open Go
theorem andB {a b : Bool} (h1 : a = true) (h2 : b = true) : (a && b) = true := by rw [h1, h2]; rfl
set_option maxRecDepth 100000 in
theorem ztf : joinedFacts Tryz.prog 4 Tryz.f4 Rows.shelfCompactsSpec Rows.shelfCompactsRow = true := by
  unfold joinedFacts
  exact (andB (andB (andB (andB (andB (andB (andB (andB (andB (andB (andB (andB (andB (andB (andB (andB (andB (andB (andB (andB (andB (andB (andB (andB (andB (andB (andB (andB (andB (andB (andB jf_0 jf_1) jf_2) jf_3) jf_4) jf_5) jf_6) jf_7) jf_8) jf_9) z8S) z9c) z9j) z9e) z81) z9b) z8M) z86) z8J) z9f) z8P) z8U) z89) z8E) z82) z9d) z8A) z84) z8Z) z87) z9a) z9k)
end Go.Proofs.YtdbhocoeolhjhaaGreatDoor

/- The row's closed facts, part by part. -/
import Derived.Test.YtdbhocoeolhjhaaGreatDoorRows
import Derived.JoinedOf
namespace Go.Proofs.YtdbhocoeolhjhaaGreatDoor
open Go
theorem jf_1 : (laidOutB Tryz.prog) = true := by kernel_rfl
end Go.Proofs.YtdbhocoeolhjhaaGreatDoor

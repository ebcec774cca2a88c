/- The row's closed facts, part by part. -/
import Derived.Test.YtdbhocoeolhjhaaGreatDoorRows
import Derived.JoinedOf
namespace Go.Proofs.YtdbhocoeolhjhaaGreatDoor
open Go
theorem zBc : (Tryz.prog.stopsHeard) = true := by kernel_rfl
theorem zAS : (Tryz.prog.mayEnter) = true := by kernel_rfl
end Go.Proofs.YtdbhocoeolhjhaaGreatDoor

/- The row's closed facts, part by part. -/
import Derived.Test.YtdbhocoeolhjhaaGreatDoorRows
import Derived.JoinedOf
namespace Go.Proofs.YtdbhocoeolhjhaaGreatDoor
open Go
theorem jf_9 : ((Rows.shelfSureRow.inPlace == Tryz.prog.inPlace 6)) = true := by kernel_rfl
end Go.Proofs.YtdbhocoeolhjhaaGreatDoor

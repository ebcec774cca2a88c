/- The row's closed facts, part by part. -/
import Derived.Test.YtigkchpjpdbodaaGreatDoorRows
import Derived.JoinedOf
namespace Go.Proofs.YtigkchpjpdbodaaGreatDoor
open Go
theorem jf_11 : ((Rows.renderLinesRow.recurses == Tryz.prog.recurses 3)) = true := by kernel_rfl
end Go.Proofs.YtigkchpjpdbodaaGreatDoor

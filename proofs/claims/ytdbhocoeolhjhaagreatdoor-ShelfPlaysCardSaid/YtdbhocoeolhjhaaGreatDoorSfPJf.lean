/- The row's closed facts, part by part. -/
import Derived.Test.YtdbhocoeolhjhaaGreatDoorRows
import Derived.JoinedOf
namespace Go.Proofs.YtdbhocoeolhjhaaGreatDoor
open Go
theorem jf_0 : (Rows.shelfPlaysRow.wf (OpenSpec.ofChange Rows.shelfPlaysSpec)) = true := by kernel_rfl
theorem jf_2 : (mapsRowed Tryz.prog) = true := by kernel_rfl
theorem jf_3 : (Tryz.f3.params.all (Tryz.prog.readableRec ·)) = true := by kernel_rfl
theorem jf_4 : (namedTie Tryz.prog Rows.shelfPlaysRow.named Rows.shelfPlaysSpec.vars) = true := by kernel_rfl
theorem jf_22 : ((Rows.shelfPlaysRow.plainKeys == Tryz.prog.plainKeys)) = true := by kernel_rfl
end Go.Proofs.YtdbhocoeolhjhaaGreatDoor

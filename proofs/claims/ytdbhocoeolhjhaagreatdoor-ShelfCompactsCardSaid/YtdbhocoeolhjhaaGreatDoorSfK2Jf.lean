/- The row's closed facts, part by part. -/
import Derived.Test.YtdbhocoeolhjhaaGreatDoorRows
import Derived.JoinedOf
namespace Go.Proofs.YtdbhocoeolhjhaaGreatDoor
open Go
theorem jf_0 : (Rows.shelfCompactsRow.wf (OpenSpec.ofChange Rows.shelfCompactsSpec)) = true := by kernel_rfl
theorem jf_2 : (mapsRowed Tryz.prog) = true := by kernel_rfl
theorem jf_3 : (Tryz.f4.params.all (Tryz.prog.readableRec ·)) = true := by kernel_rfl
theorem jf_4 : (namedTie Tryz.prog Rows.shelfCompactsRow.named Rows.shelfCompactsSpec.vars) = true := by kernel_rfl
theorem z89 : ((Rows.shelfCompactsRow.plainKeys == Tryz.prog.plainKeys)) = true := by kernel_rfl
end Go.Proofs.YtdbhocoeolhjhaaGreatDoor

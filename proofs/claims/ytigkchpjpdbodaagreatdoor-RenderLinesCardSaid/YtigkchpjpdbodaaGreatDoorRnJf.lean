/- The row's closed facts, part by part. -/
import Derived.Test.YtigkchpjpdbodaaGreatDoorRows
import Derived.JoinedOf
namespace Go.Proofs.YtigkchpjpdbodaaGreatDoor
open Go
theorem jf_0 : (Rows.renderLinesRow.wf (OpenSpec.ofChange Rows.renderLinesSpec)) = true := by kernel_rfl
theorem jf_2 : (mapsRowed Tryz.prog) = true := by kernel_rfl
theorem jf_3 : (Tryz.f3.params.all (Tryz.prog.readableRec ·)) = true := by kernel_rfl
theorem jf_4 : (namedTie Tryz.prog Rows.renderLinesRow.named Rows.renderLinesSpec.vars) = true := by kernel_rfl
theorem jf_22 : ((Rows.renderLinesRow.plainKeys == Tryz.prog.plainKeys)) = true := by kernel_rfl
end Go.Proofs.YtigkchpjpdbodaaGreatDoor

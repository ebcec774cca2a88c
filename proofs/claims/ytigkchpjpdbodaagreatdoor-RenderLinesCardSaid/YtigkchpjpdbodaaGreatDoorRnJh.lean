/- The row's closed facts, part by part. -/
import Derived.Test.YtigkchpjpdbodaaGreatDoorRows
import Derived.JoinedOf
namespace Go.Proofs.YtigkchpjpdbodaaGreatDoor
open Go
theorem jf_5 : ((Rows.renderLinesRow.stops == [])) = true := by kernel_rfl
theorem jf_6 : ((Tryz.prog.stops == [])) = true := by kernel_rfl
theorem jf_7 : ((Rows.renderLinesRow.knobs == [])) = true := by kernel_rfl
theorem jf_8 : ((Tryz.prog.stopKnobs == [])) = true := by kernel_rfl
theorem jf_13 : ((Rows.renderLinesRow.maps == (Tryz.f3.params.toList ++ Rows.renderLinesSpec.plain.varTypes Tryz.prog).any (Tryz.prog.mapsRec ·))) = true := by kernel_rfl
theorem jf_14 : ((Rows.renderLinesRow.ifaces == (Tryz.f3.params.toList ++ Rows.renderLinesSpec.plain.varTypes Tryz.prog).any (Tryz.prog.ifacesRec ·))) = true := by kernel_rfl
theorem jf_15 : ((Rows.renderLinesRow.mapsOut == Tryz.prog.mapsAmong Tryz.f3.resultTypes.toList)) = true := by kernel_rfl
theorem jf_16 : ((Rows.renderLinesRow.loops == (Tryz.f3.params.toList ++ Rows.renderLinesSpec.plain.varTypes Tryz.prog).any (Tryz.prog.loopsFrom ·))) = true := by kernel_rfl
theorem jf_17 : ((Rows.renderLinesRow.wideKeys == (Tryz.f3.params.toList ++ Rows.renderLinesSpec.plain.varTypes Tryz.prog ++ Tryz.f3.resultTypes.toList).any (Tryz.prog.wideKeysFrom ·))) = true := by kernel_rfl
theorem jf_18 : (Rows.renderLinesSpec.vars.all (Tryz.prog.varReadable ·)) = true := by kernel_rfl
theorem jf_19 : (Tryz.f3.resultTypes.all (fun t => Tryz.prog.readableRec t && decide (t < Tryz.prog.types.size))) = true := by kernel_rfl
theorem jf_20 : ((Rows.renderLinesRow.ifacesOut == Tryz.f3.resultTypes.toList.any (Tryz.prog.ifacesRec ·))) = true := by kernel_rfl
theorem jf_21 : ((Rows.renderLinesRow.loopsOut == Tryz.f3.resultTypes.toList.any (Tryz.prog.loopsFrom ·))) = true := by kernel_rfl
theorem jf_23 : (Rows.renderLinesRow.shortTexts.isNone) = true := by kernel_rfl
theorem jf_26 : ((Rows.renderLinesRow.lifted == Tryz.prog.liftsFinal)) = true := by kernel_rfl
theorem jf_27 : ((Tryz.prog.make == some Rows.renderLinesRow.make)) = true := by kernel_rfl
theorem jf_28 : ((Rows.renderLinesRow.kinds == (if Rows.renderLinesRow.domain.isEmpty then [] else Tryz.f3.params.toList.map fun t => match Tryz.prog.underlying t with | some (.int k) => some k | _ => none))) = true := by kernel_rfl
theorem jf_29 : ((Rows.renderLinesRow.pinned == Rows.renderLinesRow.pinnedBy)) = true := by kernel_rfl
theorem jf_30 : ((Rows.renderLinesRow.veiled == (Tryz.f3.params.toList ++ Rows.renderLinesSpec.plain.varTypes Tryz.prog ++ Tryz.f3.resultTypes.toList).any (Tryz.prog.veiledRec ·))) = true := by kernel_rfl
theorem jf_31 : (Rows.renderLinesRow.veiledFits Tryz.prog Tryz.f3.params.toList (Tryz.f3.params.toList ++ Rows.renderLinesSpec.plain.varTypes Tryz.prog ++ Tryz.f3.resultTypes.toList)) = true := by kernel_rfl
end Go.Proofs.YtigkchpjpdbodaaGreatDoor

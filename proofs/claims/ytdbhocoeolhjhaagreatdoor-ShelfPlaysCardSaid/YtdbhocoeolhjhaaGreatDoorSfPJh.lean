/- The row's closed facts, part by part. -/
import Derived.Test.YtdbhocoeolhjhaaGreatDoorRows
import Derived.JoinedOf
namespace Go.Proofs.YtdbhocoeolhjhaaGreatDoor
open Go
theorem jf_5 : ((Rows.shelfPlaysRow.stops == [])) = true := by kernel_rfl
theorem jf_6 : ((Tryz.prog.stops == [])) = true := by kernel_rfl
theorem jf_7 : ((Rows.shelfPlaysRow.knobs == [])) = true := by kernel_rfl
theorem jf_8 : ((Tryz.prog.stopKnobs == [])) = true := by kernel_rfl
theorem jf_13 : ((Rows.shelfPlaysRow.maps == (Tryz.f3.params.toList ++ Rows.shelfPlaysSpec.plain.varTypes Tryz.prog).any (Tryz.prog.mapsRec ·))) = true := by kernel_rfl
theorem jf_14 : ((Rows.shelfPlaysRow.ifaces == (Tryz.f3.params.toList ++ Rows.shelfPlaysSpec.plain.varTypes Tryz.prog).any (Tryz.prog.ifacesRec ·))) = true := by kernel_rfl
theorem jf_15 : ((Rows.shelfPlaysRow.mapsOut == Tryz.prog.mapsAmong Tryz.f3.resultTypes.toList)) = true := by kernel_rfl
theorem jf_16 : ((Rows.shelfPlaysRow.loops == (Tryz.f3.params.toList ++ Rows.shelfPlaysSpec.plain.varTypes Tryz.prog).any (Tryz.prog.loopsFrom ·))) = true := by kernel_rfl
theorem jf_17 : ((Rows.shelfPlaysRow.wideKeys == (Tryz.f3.params.toList ++ Rows.shelfPlaysSpec.plain.varTypes Tryz.prog ++ Tryz.f3.resultTypes.toList).any (Tryz.prog.wideKeysFrom ·))) = true := by kernel_rfl
theorem jf_18 : (Rows.shelfPlaysSpec.vars.all (Tryz.prog.varReadable ·)) = true := by kernel_rfl
theorem jf_19 : (Tryz.f3.resultTypes.all (fun t => Tryz.prog.readableRec t && decide (t < Tryz.prog.types.size))) = true := by kernel_rfl
theorem jf_20 : ((Rows.shelfPlaysRow.ifacesOut == Tryz.f3.resultTypes.toList.any (Tryz.prog.ifacesRec ·))) = true := by kernel_rfl
theorem jf_21 : ((Rows.shelfPlaysRow.loopsOut == Tryz.f3.resultTypes.toList.any (Tryz.prog.loopsFrom ·))) = true := by kernel_rfl
theorem jf_23 : (Rows.shelfPlaysRow.shortTexts.isNone) = true := by kernel_rfl
theorem jf_26 : ((Rows.shelfPlaysRow.lifted == Tryz.prog.liftsFinal)) = true := by kernel_rfl
theorem jf_27 : ((Tryz.prog.make == some Rows.shelfPlaysRow.make)) = true := by kernel_rfl
theorem jf_28 : ((Rows.shelfPlaysRow.kinds == (if Rows.shelfPlaysRow.domain.isEmpty then [] else Tryz.f3.params.toList.map fun t => match Tryz.prog.underlying t with | some (.int k) => some k | _ => none))) = true := by kernel_rfl
theorem jf_29 : ((Rows.shelfPlaysRow.pinned == Rows.shelfPlaysRow.pinnedBy)) = true := by kernel_rfl
theorem jf_30 : ((Rows.shelfPlaysRow.veiled == (Tryz.f3.params.toList ++ Rows.shelfPlaysSpec.plain.varTypes Tryz.prog ++ Tryz.f3.resultTypes.toList).any (Tryz.prog.veiledRec ·))) = true := by kernel_rfl
theorem jf_31 : (Rows.shelfPlaysRow.veiledFits Tryz.prog Tryz.f3.params.toList (Tryz.f3.params.toList ++ Rows.shelfPlaysSpec.plain.varTypes Tryz.prog ++ Tryz.f3.resultTypes.toList)) = true := by kernel_rfl
end Go.Proofs.YtdbhocoeolhjhaaGreatDoor

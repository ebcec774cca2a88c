/- The row's closed facts, part by part. -/
import Derived.Test.YtdbhocoeolhjhaaGreatDoorRows
import Derived.JoinedOf
namespace Go.Proofs.YtdbhocoeolhjhaaGreatDoor
open Go
theorem jf_5 : ((Rows.shelfCompactsRow.stops == [])) = true := by kernel_rfl
theorem jf_6 : ((Tryz.prog.stops == [])) = true := by kernel_rfl
theorem jf_7 : ((Rows.shelfCompactsRow.knobs == [])) = true := by kernel_rfl
theorem jf_8 : ((Tryz.prog.stopKnobs == [])) = true := by kernel_rfl
theorem z9e : ((Rows.shelfCompactsRow.maps == (Tryz.f4.params.toList ++ Rows.shelfCompactsSpec.plain.varTypes Tryz.prog).any (Tryz.prog.mapsRec ·))) = true := by kernel_rfl
theorem z81 : ((Rows.shelfCompactsRow.ifaces == (Tryz.f4.params.toList ++ Rows.shelfCompactsSpec.plain.varTypes Tryz.prog).any (Tryz.prog.ifacesRec ·))) = true := by kernel_rfl
theorem z9b : ((Rows.shelfCompactsRow.mapsOut == Tryz.prog.mapsAmong Tryz.f4.resultTypes.toList)) = true := by kernel_rfl
theorem z8M : ((Rows.shelfCompactsRow.loops == (Tryz.f4.params.toList ++ Rows.shelfCompactsSpec.plain.varTypes Tryz.prog).any (Tryz.prog.loopsFrom ·))) = true := by kernel_rfl
theorem z86 : ((Rows.shelfCompactsRow.wideKeys == (Tryz.f4.params.toList ++ Rows.shelfCompactsSpec.plain.varTypes Tryz.prog ++ Tryz.f4.resultTypes.toList).any (Tryz.prog.wideKeysFrom ·))) = true := by kernel_rfl
theorem z8J : (Rows.shelfCompactsSpec.vars.all (Tryz.prog.varReadable ·)) = true := by kernel_rfl
theorem z9f : (Tryz.f4.resultTypes.all (fun t => Tryz.prog.readableRec t && decide (t < Tryz.prog.types.size))) = true := by kernel_rfl
theorem z8P : ((Rows.shelfCompactsRow.ifacesOut == Tryz.f4.resultTypes.toList.any (Tryz.prog.ifacesRec ·))) = true := by kernel_rfl
theorem z8U : ((Rows.shelfCompactsRow.loopsOut == Tryz.f4.resultTypes.toList.any (Tryz.prog.loopsFrom ·))) = true := by kernel_rfl
theorem z8E : (Rows.shelfCompactsRow.shortTexts.isNone) = true := by kernel_rfl
theorem z8A : ((Rows.shelfCompactsRow.lifted == Tryz.prog.liftsFinal)) = true := by kernel_rfl
theorem z84 : ((Tryz.prog.make == some Rows.shelfCompactsRow.make)) = true := by kernel_rfl
theorem z8Z : ((Rows.shelfCompactsRow.kinds == (if Rows.shelfCompactsRow.domain.isEmpty then [] else Tryz.f4.params.toList.map fun t => match Tryz.prog.underlying t with | some (.int k) => some k | _ => none))) = true := by kernel_rfl
theorem z87 : ((Rows.shelfCompactsRow.pinned == Rows.shelfCompactsRow.pinnedBy)) = true := by kernel_rfl
theorem z9a : ((Rows.shelfCompactsRow.veiled == (Tryz.f4.params.toList ++ Rows.shelfCompactsSpec.plain.varTypes Tryz.prog ++ Tryz.f4.resultTypes.toList).any (Tryz.prog.veiledRec ·))) = true := by kernel_rfl
theorem z9k : (Rows.shelfCompactsRow.veiledFits Tryz.prog Tryz.f4.params.toList (Tryz.f4.params.toList ++ Rows.shelfCompactsSpec.plain.varTypes Tryz.prog ++ Tryz.f4.resultTypes.toList)) = true := by kernel_rfl
end Go.Proofs.YtdbhocoeolhjhaaGreatDoor

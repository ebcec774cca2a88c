/- The row's closed facts, part by part. -/
import Derived.Test.YtdbhocoeolhjhaaGreatDoorRows
import Derived.JoinedOf
namespace Go.Proofs.YtdbhocoeolhjhaaGreatDoor
open Go
theorem jf_5 : ((Rows.shelfSureRow.stops == [])) = true := by kernel_rfl
theorem jf_6 : ((Tryz.prog.stops == [])) = true := by kernel_rfl
theorem jf_7 : ((Rows.shelfSureRow.knobs == [])) = true := by kernel_rfl
theorem jf_8 : ((Tryz.prog.stopKnobs == [])) = true := by kernel_rfl
theorem zBe : ((Rows.shelfSureRow.maps == (Tryz.f6.params.toList ++ Rows.shelfSureSpec.plain.varTypes Tryz.prog).any (Tryz.prog.mapsRec ·))) = true := by kernel_rfl
theorem zAL : ((Rows.shelfSureRow.ifaces == (Tryz.f6.params.toList ++ Rows.shelfSureSpec.plain.varTypes Tryz.prog).any (Tryz.prog.ifacesRec ·))) = true := by kernel_rfl
theorem zAF : ((Rows.shelfSureRow.mapsOut == Tryz.prog.mapsAmong Tryz.f6.resultTypes.toList)) = true := by kernel_rfl
theorem zBd : ((Rows.shelfSureRow.loops == (Tryz.f6.params.toList ++ Rows.shelfSureSpec.plain.varTypes Tryz.prog).any (Tryz.prog.loopsFrom ·))) = true := by kernel_rfl
theorem zAW : ((Rows.shelfSureRow.wideKeys == (Tryz.f6.params.toList ++ Rows.shelfSureSpec.plain.varTypes Tryz.prog ++ Tryz.f6.resultTypes.toList).any (Tryz.prog.wideKeysFrom ·))) = true := by kernel_rfl
theorem zAY : (Rows.shelfSureSpec.vars.all (Tryz.prog.varReadable ·)) = true := by kernel_rfl
theorem zBm : (Tryz.f6.resultTypes.all (fun t => Tryz.prog.readableRec t && decide (t < Tryz.prog.types.size))) = true := by kernel_rfl
theorem zAR : ((Rows.shelfSureRow.ifacesOut == Tryz.f6.resultTypes.toList.any (Tryz.prog.ifacesRec ·))) = true := by kernel_rfl
theorem zBb : ((Rows.shelfSureRow.loopsOut == Tryz.f6.resultTypes.toList.any (Tryz.prog.loopsFrom ·))) = true := by kernel_rfl
theorem zAX : (Rows.shelfSureRow.shortTexts.isNone) = true := by kernel_rfl
theorem zAE : ((Rows.shelfSureRow.lifted == Tryz.prog.liftsFinal)) = true := by kernel_rfl
theorem zAU : ((Tryz.prog.make == some Rows.shelfSureRow.make)) = true := by kernel_rfl
theorem zAK : ((Rows.shelfSureRow.kinds == (if Rows.shelfSureRow.domain.isEmpty then [] else Tryz.f6.params.toList.map fun t => match Tryz.prog.underlying t with | some (.int k) => some k | _ => none))) = true := by kernel_rfl
theorem zAT : ((Rows.shelfSureRow.pinned == Rows.shelfSureRow.pinnedBy)) = true := by kernel_rfl
theorem zAZ : ((Rows.shelfSureRow.veiled == (Tryz.f6.params.toList ++ Rows.shelfSureSpec.plain.varTypes Tryz.prog ++ Tryz.f6.resultTypes.toList).any (Tryz.prog.veiledRec ·))) = true := by kernel_rfl
theorem zAM : (Rows.shelfSureRow.veiledFits Tryz.prog Tryz.f6.params.toList (Tryz.f6.params.toList ++ Rows.shelfSureSpec.plain.varTypes Tryz.prog ++ Tryz.f6.resultTypes.toList)) = true := by kernel_rfl
end Go.Proofs.YtdbhocoeolhjhaaGreatDoor

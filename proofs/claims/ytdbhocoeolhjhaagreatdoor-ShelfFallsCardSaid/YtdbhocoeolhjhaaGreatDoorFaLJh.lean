import Derived.Test.YtdbhocoeolhjhaaGreatDoorRows
import Derived.JoinedOf
namespace Go.Proofs.YtdbhocoeolhjhaaGreatDoor
open Go.Proofs.Tryz Go.Proofs.YtdbhocoeolhjhaaGreatDoor.Rows
theorem jf_5:((shelfFallsRow.stops==[]))=true:=by kernel_rfl
theorem jf_6:((prog.stops==[]))=true:=by kernel_rfl
theorem jf_7:((shelfFallsRow.knobs==[]))=true:=by kernel_rfl
theorem jf_8:((prog.stopKnobs==[]))=true:=by kernel_rfl
theorem zEl:((shelfFallsRow.maps==(f5.params.toList++shelfFallsSpec.plain.varTypes prog).any (prog.mapsRec ·)))=true:=by kernel_rfl
theorem zEw:((shelfFallsRow.ifaces==(f5.params.toList++shelfFallsSpec.plain.varTypes prog).any (prog.ifacesRec ·)))=true:=by kernel_rfl
theorem zEv:((shelfFallsRow.mapsOut==prog.mapsAmong f5.resultTypes.toList))=true:=by kernel_rfl
theorem zEt:((shelfFallsRow.loops==(f5.params.toList++shelfFallsSpec.plain.varTypes prog).any (prog.loopsFrom ·)))=true:=by kernel_rfl
theorem zEb:((shelfFallsRow.wideKeys==(f5.params.toList++shelfFallsSpec.plain.varTypes prog++f5.resultTypes.toList).any (prog.wideKeysFrom ·)))=true:=by kernel_rfl
theorem zDZ:(shelfFallsSpec.vars.all (prog.varReadable ·))=true:=by kernel_rfl
theorem zE6:(f5.resultTypes.all (fun t=>prog.readableRec t && decide (t<prog.types.size)))=true:=by kernel_rfl
theorem zE9:((shelfFallsRow.ifacesOut==f5.resultTypes.toList.any (prog.ifacesRec ·)))=true:=by kernel_rfl
theorem zEn:((shelfFallsRow.loopsOut==f5.resultTypes.toList.any (prog.loopsFrom ·)))=true:=by kernel_rfl
theorem zEi:(shelfFallsRow.shortTexts.isNone)=true:=by kernel_rfl
theorem zEs:((shelfFallsRow.lifted==prog.liftsFinal))=true:=by kernel_rfl
theorem zEc:((prog.make==some shelfFallsRow.make))=true:=by kernel_rfl
theorem zEh:((shelfFallsRow.kinds==(if shelfFallsRow.domain.isEmpty then [] else f5.params.toList.map fun t=>match prog.underlying t with | some (.int k) => some k | _ => none)))=true:=by kernel_rfl
theorem zE1:((shelfFallsRow.pinned==shelfFallsRow.pinnedBy))=true:=by kernel_rfl
theorem zE8:((shelfFallsRow.veiled==(f5.params.toList++shelfFallsSpec.plain.varTypes prog++f5.resultTypes.toList).any (prog.veiledRec ·)))=true:=by kernel_rfl
theorem zDM:(shelfFallsRow.veiledFits prog f5.params.toList (f5.params.toList++shelfFallsSpec.plain.varTypes prog++f5.resultTypes.toList))=true:=by kernel_rfl

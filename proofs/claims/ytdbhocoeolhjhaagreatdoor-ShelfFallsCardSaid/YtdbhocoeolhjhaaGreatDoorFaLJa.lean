import Derived.Test.YtdbhocoeolhjhaaGreatDoorRows
import Derived.JoinedOf
namespace Go.Proofs.YtdbhocoeolhjhaaGreatDoor
theorem jf_9:((Rows.shelfFallsRow.inPlace==Tryz.prog.inPlace 5))=true:=by kernel_rfl

import Derived.Test.YtdbhocoeolhjhaaGreatDoorRows
import Derived.JoinedOf
namespace Go.Proofs.YtdbhocoeolhjhaaGreatDoor
theorem zEp:((Rows.shelfFallsRow.named==Tryz.prog.varsNamed 5))=true:=by kernel_rfl

import Derived.Test.YtdbhocoeolhjhaaGreatDoorRows
import Derived.JoinedOf
namespace Go.Proofs.YtdbhocoeolhjhaaGreatDoor
theorem zEe:((Rows.shelfFallsRow.recurses==Tryz.prog.recurses 5))=true:=by kernel_rfl

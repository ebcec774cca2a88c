import Derived.Test.YtdbhocoeolhjhaaGreatDoorRows
import Derived.JoinedOf
namespace Go.Proofs.YtdbhocoeolhjhaaGreatDoor
theorem zE2:((Rows.shelfFallsRow.unfollowed==Tryz.prog.unfollowed 5))=true:=by kernel_rfl

import Derived.Test.YtdbhocoeolhjhaaGreatDoorRows
import Derived.JoinedOf
namespace Go.Proofs.YtdbhocoeolhjhaaGreatDoor
theorem jf_1:(laidOutB Tryz.prog)=true:=by kernel_rfl

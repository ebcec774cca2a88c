import Derived.Test.YtdbhocoeolhjhaaGreatDoorRows
import Derived.JoinedOf
namespace Go.Proofs.YtdbhocoeolhjhaaGreatDoor
theorem zDY:(Tryz.prog.stopsHeard)=true:=by kernel_rfl
theorem zDL:(Tryz.prog.mayEnter)=true:=by kernel_rfl

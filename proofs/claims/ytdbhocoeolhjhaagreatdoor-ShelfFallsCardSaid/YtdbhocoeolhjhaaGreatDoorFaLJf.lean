import Derived.Test.YtdbhocoeolhjhaaGreatDoorRows
import Derived.JoinedOf
namespace Go.Proofs.YtdbhocoeolhjhaaGreatDoor
theorem jf_0:(Rows.shelfFallsRow.wf (OpenSpec.ofChange Rows.shelfFallsSpec))=true:=by kernel_rfl
theorem jf_2:(mapsRowed Tryz.prog)=true:=by kernel_rfl
theorem jf_3:(Tryz.f5.params.all (Tryz.prog.readableRec ·))=true:=by kernel_rfl
theorem jf_4:(namedTie Tryz.prog Rows.shelfFallsRow.named Rows.shelfFallsSpec.vars)=true:=by kernel_rfl
theorem zEm:((Rows.shelfFallsRow.plainKeys==Tryz.prog.plainKeys))=true:=by kernel_rfl

import Derived.Test.YtdbhocoeolhjhaaGreatDoorFaLJa
import Derived.Test.YtdbhocoeolhjhaaGreatDoorFaLJb
import Derived.Test.YtdbhocoeolhjhaaGreatDoorFaLJc
import Derived.Test.YtdbhocoeolhjhaaGreatDoorFaLJd
import Derived.Test.YtdbhocoeolhjhaaGreatDoorFaLJe
import Derived.Test.YtdbhocoeolhjhaaGreatDoorFaLJf
import Derived.Test.YtdbhocoeolhjhaaGreatDoorFaLJg
import Derived.Test.YtdbhocoeolhjhaaGreatDoorFaLJh
namespace Go.Proofs.YtdbhocoeolhjhaaGreatDoor
theorem A {a b:Bool}(h:a=true)(k:b=true):(a&&b)=true:=by rw[h,k];rfl
set_option maxRecDepth 100000 in
theorem zww:joinedFacts Tryz.prog 5 Tryz.f5 Rows.shelfFallsSpec Rows.shelfFallsRow =true:=by
 unfold joinedFacts;exact (A (A (A (A (A (A (A (A (A (A (A (A (A (A (A (A (A (A (A (A (A (A (A (A (A (A (A (A (A (A (A jf_0 jf_1) jf_2) jf_3) jf_4) jf_5) jf_6) jf_7) jf_8) jf_9) zE2) zEe) zEp) zEl) zEw) zEv) zEt) zEb) zDZ) zE6) zE9) zEn) zEm) zEi) zDY) zDL) zEs) zEc) zEh) zE1) zE8) zDM)

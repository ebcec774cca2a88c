import Derived.Shelf.Strings.Builder1
import Derived.Shelf.Spec.SlicesGrow
import Derived.Test.YtdbhocoeolhjhaaGreatDoorProg
namespace Go.Proofs.Tryz
open Go.Shelf
def laysGB_ren:Go.Shelf.Ren:=⟨fun|4=>134|n=>n,fun|0=>0|3=>3|4=>4|9=>9|20=>20|22=>70|25=>5|n=>n,fun|n=>n⟩
theorem laysGB:Go.Proofs.Lays8.n4 Tryz.prog laysGB_ren:={
 mixed:=by kernel_rfl
 f4:=⟨f134.name,by decide,func134.trans (congrArg some (by kernel_rfl))⟩
 t0:=underlying0
 a0:=isAgg0
 z0:=sizeOf0
 v0:=zeroValue0
 t3:=underlying3
 a3:=isAgg3
 z3:=sizeOf3
 v3:=zeroValue3
 t4:=underlying4
 a4:=isAgg4
 z4:=sizeOf4
 v4:=zeroValue4
 t9:=underlying9
 a9:=isAgg9
 z9:=sizeOf9
 v9:=zeroValue9
 t20:=underlying20
 a20:=isAgg20
 z20:=sizeOf20
 v20:=zeroValue20
 t22:=underlying70
 a22:=isAgg70
 z22:=sizeOf70
 v22:=zeroValue70 }
end Go.Proofs.Tryz

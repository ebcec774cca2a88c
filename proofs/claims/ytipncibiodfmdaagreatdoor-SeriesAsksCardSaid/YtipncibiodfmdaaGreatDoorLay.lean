/- The shelf's layings at this translation. -/
import Derived.Shelf.Strings.Builder1
import Derived.Shelf.Spec.SlicesGrow
import Derived.Test.YtipncibiodfmdaaGreatDoorProg
namespace Go.Proofs
open Go.Shelf
def Tryz.laysCC_ren : Go.Shelf.Ren := ⟨fun | 240 => 73 | 276 => 138 | n => n, fun | 0 => 0 | 3 => 3 | 4 => 4 | 9 => 9 | 20 => 20 | 70 => 57 | 72 => 60 | 164 => 119 | 37 => 58 | 5 => 5 | n => n, fun | n => n⟩
theorem Tryz.laysCC : Go.Proofs.Lays.n240 Tryz.prog Tryz.laysCC_ren := {
  mixed := by kernel_rfl
  f240 := Tryz.func73.trans (congrArg some (by kernel_rfl))
  f276 := Tryz.func138.trans (congrArg some (by kernel_rfl))
  t0 := Tryz.underlying0
  a0 := Tryz.isAgg0
  z0 := Tryz.sizeOf0
  v0 := Tryz.zeroValue0
  t4 := Tryz.underlying4
  a4 := Tryz.isAgg4
  z4 := Tryz.sizeOf4
  v4 := Tryz.zeroValue4
  t9 := Tryz.underlying9
  a9 := Tryz.isAgg9
  z9 := Tryz.sizeOf9
  v9 := Tryz.zeroValue9
  t20 := Tryz.underlying20
  a20 := Tryz.isAgg20
  z20 := Tryz.sizeOf20
  v20 := Tryz.zeroValue20
  t70 := Tryz.underlying57
  a70 := Tryz.isAgg57
  z70 := Tryz.sizeOf57
  v70 := Tryz.zeroValue57
  t72 := Tryz.underlying60
  a72 := Tryz.isAgg60
  z72 := Tryz.sizeOf60
  v72 := Tryz.zeroValue60
  t164 := Tryz.underlying119
  a164 := Tryz.isAgg119
  z164 := Tryz.sizeOf119
  v164 := Tryz.zeroValue119 }
theorem Tryz.XCC : Builder.X72 Tryz.prog Tryz.laysCC_ren := {
  sizeBuilder := by kernel_rfl
  liesBuilder := by kernel_rfl }
end Go.Proofs

/- The shelf's contracts of slices.SortFunc at hits, maps.Keys and slices.Collect, laid. -/
import Derived.Shelf.SlSortCmp.WholeK
import Derived.Shelf.SlGeneric
import Derived.Ground.SlsfProg
import Derived.Test.YtdbhocoeolhjhaaGreatDoorProg
namespace Go.Proofs
open Go.Shelf
def Tryz.sortSlot_ren : Go.Shelf.Ren := ⟨fun | 6 => 165 | 15 => 185 | 14 => 220 | 28 => 240 | 29 => 241 | 20 => 258 | 21 => 259 | 22 => 260 | 23 => 261 | 24 => 262 | 25 => 263 | 26 => 264 | 27 => 265 | 46 => 295 | 47 => 276 | 48 => 277 | 49 => 296 | 50 => 297 | 57 => 320 | n => n, fun | 22 => 110 | 24 => 186 | 25 => 245 | 3 => 3 | 39 => 228 | 0 => 0 | 53 => 286 | 55 => 199 | 4 => 4 | 46 => 296 | 45 => 295 | 50 => 86 | 5 => 5 | 9 => 9 | 66 => 324 | 70 => 328 | 76 => 353 | 77 => 354 | n => n, fun | n => n⟩
theorem Tryz.sortSlot : Go.Proofs.SlLaysF0.n6 Tryz.prog Tryz.sortSlot_ren := {
  mixed := by kernel_rfl
  f6 := ⟨Tryz.f165.name, by decide, Tryz.func165.trans (congrArg some (by kernel_rfl))⟩
  f14 := ⟨Tryz.f220.name, by decide, Tryz.func220.trans (congrArg some (by kernel_rfl))⟩
  f15 := Tryz.func185.trans (congrArg some (by kernel_rfl))
  f20 := ⟨Tryz.f258.name, by decide, Tryz.func258.trans (congrArg some (by kernel_rfl))⟩
  f21 := ⟨Tryz.f259.name, by decide, Tryz.func259.trans (congrArg some (by kernel_rfl))⟩
  f22 := ⟨Tryz.f260.name, by decide, Tryz.func260.trans (congrArg some (by kernel_rfl))⟩
  f23 := ⟨Tryz.f261.name, by decide, Tryz.func261.trans (congrArg some (by kernel_rfl))⟩
  f24 := ⟨Tryz.f262.name, by decide, Tryz.func262.trans (congrArg some (by kernel_rfl))⟩
  f25 := ⟨Tryz.f263.name, by decide, Tryz.func263.trans (congrArg some (by kernel_rfl))⟩
  f26 := ⟨Tryz.f264.name, by decide, Tryz.func264.trans (congrArg some (by kernel_rfl))⟩
  f27 := ⟨Tryz.f265.name, by decide, Tryz.func265.trans (congrArg some (by kernel_rfl))⟩
  f28 := Tryz.func240.trans (congrArg some (by kernel_rfl))
  f29 := Tryz.func241.trans (congrArg some (by kernel_rfl))
  f46 := ⟨Tryz.f295.name, by decide, Tryz.func295.trans (congrArg some (by kernel_rfl))⟩
  f47 := Tryz.func276.trans (congrArg some (by kernel_rfl))
  f48 := Tryz.func277.trans (congrArg some (by kernel_rfl))
  f49 := ⟨Tryz.f296.name, by decide, Tryz.func296.trans (congrArg some (by kernel_rfl))⟩
  f50 := ⟨Tryz.f297.name, by decide, Tryz.func297.trans (congrArg some (by kernel_rfl))⟩
  f57 := ⟨Tryz.f320.name, by decide, Tryz.func320.trans (congrArg some (by kernel_rfl))⟩
  t0 := Tryz.underlying0
  a0 := Tryz.isAgg0
  z0 := Tryz.sizeOf0
  v0 := Tryz.zeroValue0
  t3 := Tryz.underlying3
  a3 := Tryz.isAgg3
  z3 := Tryz.sizeOf3
  v3 := Tryz.zeroValue3
  t4 := Tryz.underlying4
  a4 := Tryz.isAgg4
  z4 := Tryz.sizeOf4
  v4 := Tryz.zeroValue4
  t5 := Tryz.underlying5
  a5 := Tryz.isAgg5
  z5 := Tryz.sizeOf5
  v5 := Tryz.zeroValue5
  t9 := Tryz.underlying9
  a9 := Tryz.isAgg9
  z9 := Tryz.sizeOf9
  v9 := Tryz.zeroValue9
  t22 := Tryz.underlying110
  a22 := Tryz.isAgg110
  z22 := Tryz.sizeOf110
  v22 := Tryz.zeroValue110
  t25 := Tryz.underlying245
  a25 := Tryz.isAgg245
  z25 := Tryz.sizeOf245
  v25 := Tryz.zeroValue245
  t39 := Tryz.underlying228
  a39 := Tryz.isAgg228
  z39 := Tryz.sizeOf228
  v39 := Tryz.zeroValue228
  t45 := Tryz.underlying295
  a45 := Tryz.isAgg295
  z45 := Tryz.sizeOf295
  v45 := Tryz.zeroValue295
  t46 := Tryz.underlying296
  a46 := Tryz.isAgg296
  z46 := Tryz.sizeOf296
  v46 := Tryz.zeroValue296
  t50 := Tryz.underlying86
  a50 := Tryz.isAgg86
  z50 := Tryz.sizeOf86
  v50 := Tryz.zeroValue86
  t53 := Tryz.underlying286
  a53 := Tryz.isAgg286
  z53 := Tryz.sizeOf286
  v53 := Tryz.zeroValue286
  t55 := Tryz.underlying199
  a55 := Tryz.isAgg199
  z55 := Tryz.sizeOf199
  v55 := Tryz.zeroValue199
  t66 := Tryz.underlying324
  a66 := Tryz.isAgg324
  z66 := Tryz.sizeOf324
  v66 := Tryz.zeroValue324
  t70 := Tryz.underlying328
  a70 := Tryz.isAgg328
  z70 := Tryz.sizeOf328
  v70 := Tryz.zeroValue328
  t76 := Tryz.underlying353
  a76 := Tryz.isAgg353
  z76 := Tryz.sizeOf353
  v76 := Tryz.zeroValue353
  t77 := Tryz.underlying354
  a77 := Tryz.isAgg354
  z77 := Tryz.sizeOf354
  v77 := Tryz.zeroValue354 }
end Go.Proofs

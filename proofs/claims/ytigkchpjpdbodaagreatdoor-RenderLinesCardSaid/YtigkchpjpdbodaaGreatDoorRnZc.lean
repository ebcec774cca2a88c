/- RenderLines returns true at every input: its card. No conditions. -/
import Derived.Test.YtigkchpjpdbodaaGreatDoorBn1
import Derived.Test.YtigkchpjpdbodaaGreatDoorBn2
import Derived.Test.YtigkchpjpdbodaaGreatDoorBn3
import Derived.Test.YtigkchpjpdbodaaGreatDoorBn4
import Derived.Test.YtigkchpjpdbodaaGreatDoorBn5
import Derived.Test.YtigkchpjpdbodaaGreatDoorBn6
import Derived.Test.YtigkchpjpdbodaaGreatDoorBn7
import Derived.Test.YtigkchpjpdbodaaGreatDoorRnZb
import Derived.Test.YtigkchpjpdbodaaGreatDoorCards
import Derived.Test.YtigkchpjpdbodaaGreatDoorRnTf
import Derived.Test.YtigkchpjpdbodaaGreatDoorRnG
import Derived.Carry
import Derived.Handed
import Derived.SevenTiedAt
set_option linter.unusedSimpArgs false
set_option linter.unusedVariables false
set_option linter.constructorNameAsVariable false
namespace Go.Proofs.YtigkchpjpdbodaaGreatDoor
open Go.ChangeShapes Go.WideShapes Go.ChangeAt Go.RowKit Go.ChangeMaps Go.Abs
theorem rlines_holds : Rows.RenderLinesCardSaid :=
  Claim7.holds_tied_plain_at .later [] [.pinned, .data, .sentinel, .sentinel, .data, .data, .data, .data, .data, .listed, .pinned] true (true, "21e6298a8ff9857fe67bb38a6125851899e566b1bb7369fc0de8245338c3870d") true
    rlines_row (fun _ h => by cases h) (by kernel_rfl) (fun _ h => by cases h) renderLines_row_tie rfl ⟨rfl, rfl⟩ (by kernel_rfl) rfl
    (fun f fn hf hfn => by
      obtain rfl : f = 3 := Option.some.inj ((show Tryz.prog.funcNamed "isobar/isobarlaw28.RenderLines" = some 3 by kernel_rfl).symm.trans hf) |>.symm
      obtain rfl : fn = Tryz.f3 := (Option.some.inj (Tryz.func3.symm.trans hfn)).symm
      exact ⟨by kernel_rfl, fun j t ht => by
        rw [Tryz.params3] at ht
        match j, ht with
        | 0, ht =>
          obtain rfl : t = 23 := by simpa using ht.symm
          exact (show Tryz.prog.wantsStandIn 23 = false by kernel_rfl)
        | 1, ht =>
          obtain rfl : t = 24 := by simpa using ht.symm
          exact (show Tryz.prog.wantsStandIn 24 = false by kernel_rfl)
        | 2, ht =>
          obtain rfl : t = 24 := by simpa using ht.symm
          exact (show Tryz.prog.wantsStandIn 24 = false by kernel_rfl)
        | j + 3, ht => simp at ht⟩)
    (goesBy_none no_goes rfl)
end Go.Proofs.YtigkchpjpdbodaaGreatDoor

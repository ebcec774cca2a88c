/- ShelfSure returns true at every input: its card. No conditions. -/
import Derived.Test.YtdbhocoeolhjhaaGreatDoorBn1
import Derived.Test.YtdbhocoeolhjhaaGreatDoorBn2
import Derived.Test.YtdbhocoeolhjhaaGreatDoorBn3
import Derived.Test.YtdbhocoeolhjhaaGreatDoorBn4
import Derived.Test.YtdbhocoeolhjhaaGreatDoorBn5
import Derived.Test.YtdbhocoeolhjhaaGreatDoorBn6
import Derived.Test.YtdbhocoeolhjhaaGreatDoorBn7
import Derived.Test.YtdbhocoeolhjhaaGreatDoorBn8
import Derived.Test.YtdbhocoeolhjhaaGreatDoorBn9
import Derived.Test.YtdbhocoeolhjhaaGreatDoorBn10
import Derived.Test.YtdbhocoeolhjhaaGreatDoorBn11
import Derived.Test.YtdbhocoeolhjhaaGreatDoorBn12
import Derived.Test.YtdbhocoeolhjhaaGreatDoorCards
import Derived.Test.YtdbhocoeolhjhaaGreatDoorTie
import Derived.Test.YtdbhocoeolhjhaaGreatDoorRnG
import Derived.Carry
import Derived.Handed
import Derived.SevenTiedAt
set_option linter.unusedSimpArgs false
set_option linter.unusedVariables false
set_option linter.constructorNameAsVariable false
namespace Go.Proofs.YtdbhocoeolhjhaaGreatDoor
open Go.ChangeShapes Go.WideShapes Go.ChangeAt Go.RowKit Go.ChangeMaps Go.Abs
theorem ssure_holds : Rows.ShelfSureCardSaid :=
  Claim7.holds_tied_plain_at .later [] [.data, .data, .data, .data, .sentinel, .sentinel, .data, .pinned] true (true, "401ee0bb4ff5e615c932a5be95cd3973cec291ae7f7d160821d4b3326a133d54") true
    z1o (fun _ h => by cases h) (by kernel_rfl) (fun _ h => by cases h) shelfSure_row_tie rfl ⟨rfl, rfl⟩ (by kernel_rfl) rfl
    (fun f fn hf hfn => by
      obtain rfl : f = 6 := Option.some.inj ((show Tryz.prog.funcNamed "isobar/isobarlaw21.ShelfSure" = some 6 by kernel_rfl).symm.trans hf) |>.symm
      obtain rfl : fn = Tryz.f6 := (Option.some.inj (Tryz.func6.symm.trans hfn)).symm
      exact ⟨by kernel_rfl, fun j t ht => by
        rw [Tryz.params6] at ht
        match j, ht with
        | 0, ht =>
          obtain rfl : t = 22 := by simpa using ht.symm
          exact (show Tryz.prog.wantsStandIn 22 = false by kernel_rfl)
        | j + 1, ht => simp at ht⟩)
    (zwG z9c rfl)
end Go.Proofs.YtdbhocoeolhjhaaGreatDoor

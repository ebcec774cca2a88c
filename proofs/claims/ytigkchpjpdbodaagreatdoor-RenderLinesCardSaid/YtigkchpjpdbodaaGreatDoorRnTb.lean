/- The tie: the variables' own run ends. -/
import Derived.Test.YtigkchpjpdbodaaGreatDoorRnTa
set_option linter.unusedVariables false
namespace Go.Proofs.YtigkchpjpdbodaaGreatDoor
open Go
theorem tie_d (os : Os) (tape : Tape) : varsDone Tryz.prog 400 (varsId Tryz.prog) os tape = true := by kernel_rfl
end Go.Proofs.YtigkchpjpdbodaaGreatDoor

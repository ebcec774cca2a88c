/- The tie: what the run lays. -/
import Derived.Test.YtigkchpjpdbodaaGreatDoorRnTa
set_option linter.unusedVariables false
namespace Go.Proofs.YtigkchpjpdbodaaGreatDoor
open Go
theorem tie_1 (os : Os) (tape : Tape) : (DataW.laidRun Tryz.prog (varsWorld Tryz.prog 400 (varsId Tryz.prog) os tape).memory 8 (tieL.map (·.1))).map (·.1) = some tieL := by kernel_rfl
end Go.Proofs.YtigkchpjpdbodaaGreatDoor

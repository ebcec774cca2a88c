/- The tie: the places are as they must be. -/
import Derived.Test.YtigkchpjpdbodaaGreatDoorRnTa
set_option linter.unusedVariables false
namespace Go.Proofs.YtigkchpjpdbodaaGreatDoor
open Go
theorem tie_2b (os : Os) (tape : Tape) : (DataW.laidRun Tryz.prog (varsWorld Tryz.prog 400 (varsId Tryz.prog) os tape).memory 8 (tieL.map (·.1))).map (fun x => laidRowsB Tryz.prog (varsWorld Tryz.prog 400 (varsId Tryz.prog) os tape).memory x.2) = some true := by kernel_rfl
end Go.Proofs.YtigkchpjpdbodaaGreatDoor

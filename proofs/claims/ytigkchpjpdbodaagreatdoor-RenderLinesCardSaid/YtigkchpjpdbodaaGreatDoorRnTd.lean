/- The tie: no place is read twice. -/
import Derived.Test.YtigkchpjpdbodaaGreatDoorRnTa
set_option linter.unusedVariables false
namespace Go.Proofs.YtigkchpjpdbodaaGreatDoor
open Go
theorem tie_2a (os : Os) (tape : Tape) : (DataW.laidRun Tryz.prog (varsWorld Tryz.prog 400 (varsId Tryz.prog) os tape).memory 8 (tieL.map (·.1))).map (fun x => ndB (x.2.map keyP)) = some true := by kernel_rfl
end Go.Proofs.YtigkchpjpdbodaaGreatDoor

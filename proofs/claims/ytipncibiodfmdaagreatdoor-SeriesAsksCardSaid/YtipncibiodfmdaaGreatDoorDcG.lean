/- Numbers as text: the law of parsing. -/
import Derived.Test.YtipncibiodfmdaaGreatDoorDcF
set_option linter.unusedSimpArgs false
set_option linter.unusedVariables false
set_option linter.constructorNameAsVariable false
set_option maxHeartbeats 2000000
namespace Go.Proofs.YtipncibiodfmdaaGreatDoor
open Go.Abs Go.Dec
variable {G : Globs}

end Go.Proofs.YtipncibiodfmdaaGreatDoor

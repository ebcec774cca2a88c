/- Numbers over time: the document's Coarser, and the law. -/
import Derived.Test.YtjkajkhomklikaaDoorSeF
set_option linter.unusedSimpArgs false
set_option linter.unusedVariables false
set_option linter.constructorNameAsVariable false
set_option maxHeartbeats 4000000
namespace Go.Proofs.YtjkajkhomklikaaDoor
open Go.Abs Go.Num Go.Ser
variable {G : Globs}
end Go.Proofs.YtjkajkhomklikaaDoor

/- Numbers: the document's products and quotients of 128 bits. -/
import Derived.Test.YtjkajkhomklikaaDoorNuD
set_option linter.unusedSimpArgs false
set_option linter.unusedVariables false
set_option linter.constructorNameAsVariable false
set_option maxHeartbeats 2000000
namespace Go.Proofs.YtjkajkhomklikaaDoor
open Go.Abs Go.Num
variable {G : Globs}
end Go.Proofs.YtjkajkhomklikaaDoor

/- The law LevelTells: the walk. -/
import Derived.Test.YtpaehjjkfjgfiaaL2
set_option linter.unusedVariables false
set_option linter.unusedSimpArgs false
namespace Go.Abs
open Go Go.Proofs

end Go.Abs

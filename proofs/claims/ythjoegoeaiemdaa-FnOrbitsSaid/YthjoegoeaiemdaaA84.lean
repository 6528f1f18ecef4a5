/- The law of GroupNamed. -/
import Derived.Test.YthjoegoeaiemdaaA83
namespace Go.Proofs.Ythjoegoeaiemdaa
set_option linter.unusedVariables false
set_option linter.unusedSimpArgs false
open Go.RowKit

end Go.Proofs.Ythjoegoeaiemdaa

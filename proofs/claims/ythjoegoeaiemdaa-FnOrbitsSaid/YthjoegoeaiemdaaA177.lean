/- Is a group transitive: both sides. -/
import Derived.Test.YthjoegoeaiemdaaA173
import Derived.Test.YthjoegoeaiemdaaA174
namespace Go.Proofs.Ythjoegoeaiemdaa
set_option linter.unusedVariables false
set_option linter.unusedSimpArgs false
open Go.RowKit

end Go.Proofs.Ythjoegoeaiemdaa

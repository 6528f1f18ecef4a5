/- Walk: the law of GeometricSum. -/
import Derived.Test.YthjoegoeaiemdaaA44
namespace Go.Proofs.Ythjoegoeaiemdaa
set_option linter.unusedVariables false
set_option linter.unusedSimpArgs false
open Go.RowKit

end Go.Proofs.Ythjoegoeaiemdaa

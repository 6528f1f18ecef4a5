/- Draws: a name of the library, a type. -/
import Derived.Test.YthjoegoeaiemdaaA115
import Derived.Test.YthjoegoeaiemdaaA112
import Derived.Test.YthjoegoeaiemdaaA88
import Derived.Test.YthjoegoeaiemdaaA101
namespace Go.Proofs.Ythjoegoeaiemdaa
set_option linter.unusedVariables false
set_option linter.unusedSimpArgs false
open Go.RowKit

/-- A draw that hands back one value of a kind. -/
def NXV (g : Nat) (P : Value → Prop) (w : World) (e : Ending) (w' : World) : Prop := ∃ v : Value, e = .returned v ∧ P v ∧ SRC w' g ∧ Up g w.heap.size w w'
end Go.Proofs.Ythjoegoeaiemdaa

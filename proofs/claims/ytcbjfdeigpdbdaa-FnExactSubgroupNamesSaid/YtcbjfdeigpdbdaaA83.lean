/- Walks: IsSolvableName; the law of GroupNamed. -/
import Derived.Test.YtcbjfdeigpdbdaaA82
import Derived.Test.YtcbjfdeigpdbdaaA19
namespace Go.Proofs.Ytcbjfdeigpdbdaa
set_option linter.unusedVariables false
set_option linter.unusedSimpArgs false
open Go.RowKit

def MBI (b : Bool) (c : Int) (w : World) (e : Ending) (w' : World) : Prop := e = .returned (.tuple #[.bool b, .int .i64 c]) ∧ Below w.heap.size w w'
end Go.Proofs.Ytcbjfdeigpdbdaa

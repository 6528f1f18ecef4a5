/- Walks: impl.namesWith, TransitiveNames, the law. -/
import Derived.Test.YtcbjfdeigpdbdaaA86
import Derived.Test.YtcbjfdeigpdbdaaA81
namespace Go.Proofs.Ytcbjfdeigpdbdaa
set_option linter.unusedVariables false
set_option linter.unusedSimpArgs false
open Go.RowKit

def tnL (n : Int) : List Nat := if inB n 1 5 then nmK n 14 else []
def tnC (n : Int) : Int := if inB n 1 5 then 0 else 2
def OSC (is : List Nat) (c : Int) (w : World) (e : Ending) (w' : World) : Prop := ∃ A cap, e = .returned (.tuple #[.slice A is.length cap, .int .i64 c]) ∧ OwnS w' w.heap.size (.slice A is.length cap) is.length (is.map lbN) ∧ Below w.heap.size w w'
end Go.Proofs.Ytcbjfdeigpdbdaa

/- Walk: the law of GeometricSum. -/
import Derived.Test.YtnagocbjhbaelaaA44
namespace Go.Proofs.Ytnagocbjhbaelaa
set_option linter.unusedVariables false
set_option linter.unusedSimpArgs false
open Go.RowKit

set_option maxHeartbeats 400000 in
theorem l_toRing (a b : Int) (w : World) : Calls Try.prog 63 #[.agg #[.int .i64 a, .int .i64 b]] w (M (.agg #[.int .i64 a, .int .i64 b]) w) := by
  go_enter Try.func63, Try.ntmps63
  go_wp2
  go_returns
  refine ⟨rfl, ?_⟩
  repeat (first | exact Below.refl _ _ | refine below_drewN ?_ _ | refine Below.alloc ?_ (by simp <;> omega) _ | refine Below.setCell ?_ (by simp <;> omega) _ | refine Below.drew ?_ | assumption)
end Go.Proofs.Ytnagocbjhbaelaa

/- RationalRoots: comparing two roots. -/
import Derived.Test.YtglijcdnnaekkaaA290
import Derived.Test.YtglijcdnnaekkaaA266
namespace Go.Proofs.Ytglijcdnnaekkaa
set_option linter.unusedVariables false
set_option linter.unusedSimpArgs false
open Go.RowKit

theorem mul_bdQ {a b : Int} (ha : -60 ≤ a ∧ a ≤ 60) (hb : -60 ≤ b ∧ b ≤ 60) : (a * b).natAbs ≤ 3600 := by
  rw [Int.natAbs_mul]
  exact Nat.mul_le_mul (show a.natAbs ≤ 60 by omega) (show b.natAbs ≤ 60 by omega)
set_option maxHeartbeats 1000000 in
theorem i_ratCmp (a b c d : Int) (w : World) (ha : -60 ≤ a ∧ a ≤ 60) (hb : -60 ≤ b ∧ b ≤ 60) (hc : -60 ≤ c ∧ c ≤ 60) (hd : -60 ≤ d ∧ d ≤ 60) :
    Calls Try.prog 71 #[.agg #[.int .i64 a, .int .i64 b], .agg #[.int .i64 c, .int .i64 d]] w (M (.int .i64 (cmpN (a * d) (c * b))) w) := by
  obtain ⟨B0, C0⟩ := two_boxes w 46 46 #[.int .i64 a, .int .i64 b] #[.int .i64 c, .int .i64 d]
  have hb0 := two_alloc w (.cells #[.int .i64 a, .int .i64 b] 46) (.cells #[.int .i64 c, .int .i64 d] 46)
  obtain ⟨c0, c1, _, _⟩ := B0.two
  obtain ⟨e0, e1, _, _⟩ := C0.two
  have m1 := mul_bdQ ha hd
  have m2 := mul_bdQ hc hb
  have w1 : IntKind.i64.wrap (a * d) = a * d := IntWalk.i64_in _ (by omega)
  have w2 : IntKind.i64.wrap (c * b) = c * b := IntWalk.i64_in _ (by omega)
  have hcm := fun W => c_cmp64 (a * d) (c * b) W
  clear m1 m2 ha hb hc hd
  go_enter Try.func71, Try.ntmps71
  go_wp2_with (go_at_call 72; refine (hcm _).mono ?_; rintro e w3 ⟨rfl, q3, rfl⟩)
  go_ret
  exact ⟨rfl, below_drewN hb0 q3⟩
set_option maxHeartbeats 1000000 in
theorem s_l26Before (a b c d : Int) (w : World) (ha : -60 ≤ a ∧ a ≤ 60) (hb : -60 ≤ b ∧ b ≤ 60) (hc : -60 ≤ c ∧ c ≤ 60) (hd : -60 ≤ d ∧ d ≤ 60) :
    Calls Try.prog 62 #[.agg #[.int .i64 a, .int .i64 b], .agg #[.int .i64 c, .int .i64 d]] w (M (.bool (decide (a * d < c * b))) w) := by
  obtain ⟨B0, C0⟩ := two_boxes w 46 46 #[.int .i64 a, .int .i64 b] #[.int .i64 c, .int .i64 d]
  have hb0 := two_alloc w (.cells #[.int .i64 a, .int .i64 b] 46) (.cells #[.int .i64 c, .int .i64 d] 46)
  obtain ⟨c0, c1, _, _⟩ := B0.two
  obtain ⟨e0, e1, _, _⟩ := C0.two
  have m1 := mul_bdQ ha hd
  have m2 := mul_bdQ hc hb
  have w1 : IntKind.i64.wrap (a * d) = a * d := IntWalk.i64_in _ (by omega)
  have w2 : IntKind.i64.wrap (c * b) = c * b := IntWalk.i64_in _ (by omega)
  clear m1 m2 ha hb hc hd
  go_enter Try.func62, Try.ntmps62
  go_wp2_with (fail)
  go_ret
  exact ⟨rfl, hb0⟩
end Go.Proofs.Ytglijcdnnaekkaa

/- Walk: the law of GeometricSum. -/
import Derived.Test.YtlhkpepnklbnfaaA44
namespace Go.Proofs.Ytlhkpepnklbnfaa
set_option linter.unusedVariables false
set_option linter.unusedSimpArgs false
open Go.RowKit

set_option maxHeartbeats 400000 in
theorem l_toRing (a b : Int) (w : World) : Calls Try.prog 39 #[.agg #[.int .i64 a, .int .i64 b]] w (M (.agg #[.int .i64 a, .int .i64 b]) w) := by
  go_enter Try.func39, Try.ntmps39
  go_wp2
  go_returns
  refine ⟨rfl, ?_⟩
  repeat (first | exact Below.refl _ _ | refine below_drewN ?_ _ | refine Below.alloc ?_ (by simp <;> omega) _ | refine Below.setCell ?_ (by simp <;> omega) _ | refine Below.drew ?_ | assumption)
set_option maxHeartbeats 400000 in
theorem law_GeometricSum (p n x : Int) (w : World) (hp : -9223372036854775808 ≤ p ∧ p ≤ 9223372036854775807) : Calls Try.prog 10 #[.agg #[.int .i64 p, .int .i64 n], .int .i64 x] w (M (.bool true) w) := by
  obtain ⟨hp0, _⟩ := hp
  generalize hV : gsV p n x = V
  generalize hC : gsC p n x = C
  have HV := Lib.hid hV
  have HC := Lib.hid hC
  clear hV hC
  go_enter Try.func10, Try.ntmps10
  go_wp2_with (fail)
  have hB := BK.new w 49 #[.int .i64 p, .int .i64 n]
  refine (l_toRing _ _ _).mono ?_
  rintro e w1 ⟨rfl, hb1⟩
  have b1 := bel_call (BoxB w _) hb1
  have hB1 := hB.of_below hb1
  clear hB hb1
  go_wp2_with (fail)
  refine (s_GeometricSum _ _ _ _ hp0).mono ?_
  rw [HV.out, HC.out]
  rintro e w2 ⟨rfl, hb2⟩
  have b2 := bel_call b1 hb2
  obtain ⟨c0, c1, _, _⟩ := (hB1.of_below hb2).two
  clear hB1 hb2
  go_wp2_with (fail)
  refine (l_toRing _ _ _).mono ?_
  rintro e w3 ⟨rfl, hb3⟩
  have b3 := bel_call b2 hb3
  go_wp2_with (fail)
  refine (i_GeometricSum _ _ _ _ hp0).mono ?_
  rw [HV.out, HC.out]
  rintro e w4 ⟨rfl, hb4⟩
  have b4 := bel_call b3 hb4
  go_wp2_with (fail)
  go_ret
  exact ⟨rfl, b4⟩
end Go.Proofs.Ytlhkpepnklbnfaa

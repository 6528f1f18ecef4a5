/- Walk: the law of StrassmannCount. -/
import Derived.Test.YtlhkpepnklbnfaaA35
namespace Go.Proofs.Ytlhkpepnklbnfaa
set_option linter.unusedVariables false
set_option linter.unusedSimpArgs false
open Go.RowKit

set_option maxHeartbeats 1000000 in
theorem law_StrassmannCount (p : Int) (A : Option Addr) (n c : Nat) (xs : List Int) (w : World) (hp : -9223372036854775808 ≤ p ∧ p ≤ 9223372036854775807) (hn : n = xs.length) (hc : n ≤ c) (hm : c ≤ maxLen) (hr : R64 xs) (hs : IS w w.heap.size A xs) :
    Calls Try.prog 11 #[.int .i64 p, .slice A n c] w (M (.bool true) w) := by
  unfold maxLen at hm
  obtain ⟨hp0, _⟩ := hp
  have HN := Lib.hid hn
  clear hn
  generalize hV : scV p xs = V
  generalize hC : scC p xs = C
  have HV := Lib.hid hV
  have HC := Lib.hid hC
  clear hV hC
  by_cases hbig : 1048576 < n
  · go_enter Try.func11, Try.ntmps11
    go_wp2_with (fail)
    go_ret
    exact ⟨rfl, Below.refl _ _⟩
  go_enter Try.func11, Try.ntmps11
  go_wp2_with (fail)
  refine (l_toInt64S A n c xs _ HN.out (by omega) hs).mono ?_
  rintro e w1 ⟨g1, rfl, hN1, hb1⟩
  go_wp2_with (fail)
  refine (s_StrassmannCount p _ _ _ xs _ hp0 HN.out (by omega) hN1.is).mono ?_
  rw [HV.out, HC.out]
  rintro e w2 ⟨rfl, hb2⟩
  have b2 := bel_call hb1 hb2
  go_wp2_with (fail)
  refine (l_toInt64S A n c xs _ HN.out (by omega) (hs.call b2)).mono ?_
  rintro e w3 ⟨g3, rfl, hN3, hb3⟩
  have b3 := bel_call b2 hb3
  go_wp2_with (fail)
  refine (i_StrassmannCount p _ _ _ xs _ hp0 HN.out (by omega) hN3.is).mono ?_
  rw [HV.out, HC.out]
  rintro e w4 ⟨rfl, hb4⟩
  have b4 := bel_call b3 hb4
  have hN4 := hN3.below hb4 hN3.lt
  go_wp2_with (fail)
  refine (l_toInt64S A n c xs _ HN.out (by omega) (hs.call b4)).mono ?_
  rintro e w5 ⟨g5, rfl, hN5, hb5⟩
  have hN6 := hN4.below hb5 hN4.lt
  have b5 := bel_call b4 hb5
  go_wp2_with (fail)
  refine (l_eqInt64S _ _ n _ n _ xs _ w5.heap.size w5.heap.size HN.out HN.out (by omega) hN6.is hN5.is).mono ?_
  rintro e w6 ⟨rfl, nq6, rfl⟩
  go_wp2_with (fail)
  go_ret
  exact ⟨rfl, below_drewN b5 _⟩
end Go.Proofs.Ytlhkpepnklbnfaa

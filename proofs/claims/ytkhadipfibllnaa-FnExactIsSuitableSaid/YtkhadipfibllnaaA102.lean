/- The law of IsSuitable. -/
import Derived.Test.YtkhadipfibllnaaA101
namespace Go.Proofs.Ytkhadipfibllnaa
set_option linter.unusedVariables false
set_option linter.unusedSimpArgs false
open Go.RowKit

set_option maxHeartbeats 4000000 in
theorem law_IsSuitable (s : ByteArray) (A : Option Addr) (n c : Nat) (xs : List Int) (w : World) (hn : n = xs.length) (hc : n ≤ c) (hm : c ≤ maxLen) (hr : R64 xs) (hs : IS w w.heap.size A xs) :
    Calls Try.prog 8 #[.string s, .slice A n c] w (M (.bool true) w) := by
  unfold maxLen at hm
  by_cases hbig : 1048576 < s.size
  · go_enter Try.func8, Try.ntmps8
    go_wp2_with (fail)
    go_ret
    exact ⟨rfl, Below.refl _ _⟩
  by_cases hbig2 : 1048576 < n
  · clear hn
    go_enter Try.func8, Try.ntmps8
    go_wp2_with (fail)
    go_ret
    exact ⟨rfl, Below.refl _ _⟩
  have hall : ∃ b cd, (∀ B d W, n = xs.length → n ≤ 1048576 → IS W W.heap.size B xs → Calls Try.prog 29 #[.string s, .slice B n d] W (MBI b cd W)) ∧ (∀ B d W, n = xs.length → n ≤ 1048576 → IS W W.heap.size B xs → Calls Try.prog 31 #[.string s, .slice B n d] W (MBI b cd W)) := by
    by_cases h : ∃ i, i < 14 ∧ s.toList = lbN i
    · obtain ⟨i, hi, hs⟩ := h
      exact ⟨_, _, fun B d W h1 h2 h3 => s_IsSuitable s i hi hs B n d xs W h1 h2 h3, fun B d W h1 h2 h3 => i_IsSuitable s i hi hs B n d xs W h1 h2 h3⟩
    · have hno : NoN s := fun i hi he => h ⟨i, hi, he⟩
      exact ⟨_, _, fun B d W _ _ _ => s_IsSuitable_no s hno _ W, fun B d W _ _ _ => i_IsSuitable_no s hno _ W⟩
  obtain ⟨b, code, h1, h2⟩ := hall
  have hl : n ≤ 1048576 := by omega
  have HN := Lib.hid hn
  clear hn hr
  go_enter Try.func8, Try.ntmps8
  go_wp2_with (fail)
  refine (l_toInt64S A n c xs _ HN.out hl hs).mono ?_
  rintro e w1 ⟨g1, rfl, hN1, hb1⟩
  go_wp2_with (fail)
  refine (h1 _ _ _ HN.out hl hN1.is).mono ?_
  rintro e w2 ⟨rfl, hb2⟩
  have hb2 := bel_call hb1 hb2
  go_wp2_with (fail)
  refine (l_toInt64S A n c xs _ HN.out hl (hs.call hb2)).mono ?_
  rintro e w3 ⟨g3, rfl, hN3, hb3⟩
  have hb3 := bel_call hb2 hb3
  go_wp2_with (fail)
  refine (h2 _ _ _ HN.out hl hN3.is).mono ?_
  rintro e w4 ⟨rfl, hb4⟩
  have hN4 := hN3.below hb4 hN3.lt
  have hb4 := bel_call hb3 hb4
  go_wp2_with (fail)
  refine (l_toInt64S A n c xs _ HN.out hl (hs.call hb4)).mono ?_
  rintro e w5 ⟨g5, rfl, hN5, hb5⟩
  have hN6 := hN4.below hb5 hN4.lt
  have hb5 := bel_call hb4 hb5
  go_wp2_with (fail)
  refine (l_eqInt64S _ _ n _ n _ xs _ w5.heap.size w5.heap.size HN.out HN.out (by omega) hN6.is hN5.is).mono ?_
  rintro e w6 ⟨rfl, nq6, rfl⟩
  go_wp2_with (fail)
  go_ret
  exact ⟨rfl, below_drewN hb5 _⟩
end Go.Proofs.Ytkhadipfibllnaa

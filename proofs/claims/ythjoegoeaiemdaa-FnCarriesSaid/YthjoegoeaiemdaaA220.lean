/- Draws of numbers for valuations and carries. -/
import Derived.Test.YthjoegoeaiemdaaA112
import Derived.Test.YthjoegoeaiemdaaA3
import Derived.BigQuiet
namespace Go.Proofs.Ythjoegoeaiemdaa
set_option linter.unusedVariables false
set_option linter.unusedSimpArgs false
open Go.RowKit

def FVD (w : World) (e : Ending) (w' : World) : Prop := ∃ a p : Int, e = .returned (.tuple #[.int .i64 a, .int .i64 p]) ∧ -1 ≤ a ∧ a ≤ 1000000000001 ∧ -3 ≤ p ∧ p ≤ 101 ∧ Below w.heap.size w w'
set_option maxRecDepth 20000 in
set_option maxHeartbeats 2000000 in
theorem s_DrawFactorialValuation (A : Option Addr) (n c : Nat) (w : World) (hn : n ≤ 4096) (hs : YB w w.heap.size A n) : Calls Try.prog 39 #[.slice A n c] w (FVD w) := by
  have hf := s_l01From A n c w hn hs
  have hpk := fun x y z W h => s_pick7 w.heap.size x y 0 1000000000000 1000000000001 (-1) z W h
  have hdp := fun W h => s_l01DrawPrime w.heap.size W h
  clear hn hs
  go_enter Try.func39, Try.ntmps39
  go_wp2_with (fail)
  refine hf.mono ?_
  rintro e w1 ⟨rfl, hs1, hb1⟩
  have u1 := Up.of (g := w.heap.size) hb1
  clear hb1 hf
  go_wp2_with (fail)
  refine (s_nextI w.heap.size 100 (by omega) _ hs1).mono ?_
  rintro e w2 ⟨k2, rfl, hk2, hsw2, huw2⟩
  have uw2 := u1.call huw2
  go_wp2_with (fail)
  refine (s_nextI w.heap.size 1000000 (by omega) _ hsw2).mono ?_
  rintro e w3 ⟨k3, rfl, hk3, hsw3, huw3⟩
  have uw3 := uw2.call huw3
  go_wp2_with (fail)
  refine (s_nextI w.heap.size 100 (by omega) _ hsw3).mono ?_
  rintro e w4 ⟨k4, rfl, hk4, hsw4, huw4⟩
  have uw4 := uw3.call huw4
  go_wp2_with (fail)
  refine (hpk _ _ _ _ hsw4).mono ?_
  rintro e w5 ⟨a, rfl, ha, hs5, hu5⟩
  have u5 := uw4.call hu5
  have ha : -1 ≤ a ∧ a ≤ 1000000000001 := by
    simp at ha
    omega
  clear hu5 uw4 uw3 uw2 u1 hs1 hsw2 hsw3 hsw4 hk2 hk3 hk4 hpk
  go_wp2_with (fail)
  refine (hdp _ hs5).mono ?_
  rintro e w6 ⟨p, rfl, ⟨hp1, hp2⟩, hs6, hu6⟩
  have u6 := u5.call hu6
  go_wp2_with (fail)
  go_ret2
  exact ⟨a, p, rfl, ha.1, ha.2, hp1, hp2, u6.below (Nat.le_refl _)⟩
set_option maxRecDepth 20000 in
set_option maxHeartbeats 2000000 in
theorem s_DrawBinomialValuation (A : Option Addr) (n c : Nat) (w : World) (hn : n ≤ 4096) (hs : YB w w.heap.size A n) : Calls Try.prog 33 #[.slice A n c] w (fun e w' => ∃ a k p : Int, e = .returned (.tuple #[.int .i64 a, .int .i64 k, .int .i64 p]) ∧ -3 ≤ p ∧ p ≤ 101 ∧ Below w.heap.size w w') := by
  have hf := s_l01From A n c w hn hs
  have hfv := fun W h => s_DrawFactorialValuation A n c W hn h
  have hpk := fun x y z z' W h => s_pick6 w.heap.size x y 0 z z' (-1) W h
  clear hn
  go_enter Try.func33, Try.ntmps33
  go_wp2_with (fail)
  refine hf.mono ?_
  rintro e w1 ⟨rfl, hs1, hb1⟩
  have u1 := Up.of (g := w.heap.size) hb1
  go_wp2_with (fail)
  refine (hfv _ (hs.call hb1)).mono ?_
  rintro e w2 ⟨a, p, rfl, ha1, ha2, hp1, hp2, hb2⟩
  have hs2 := hs1.call hb2
  have u2 := u1.thenB hb2
  have hw1 : IntKind.i64.wrap (a + 1) = a + 1 := IntWalk.i64_in _ (by omega)
  clear hb1 hb2 hf hfv hs1 u1 hs
  rcases (by omega : a < 1 ∨ 1 < a ∨ a = 1) with ha | ha | rfl
  · skip
    go_wp2_with (fail)
    refine (s_nextI w.heap.size 1 (by omega) _ hs2).mono ?_
    rintro e w3 ⟨k3, rfl, hk3, hsw3, huw3⟩
    have uw3 := u2.call huw3
    go_wp2_with (fail)
    refine (s_nextI w.heap.size 1 (by omega) _ hsw3).mono ?_
    rintro e w4 ⟨k4, rfl, hk4, hsw4, huw4⟩
    have uw4 := uw3.call huw4
    go_wp2_with (fail)
    refine (hpk _ _ _ _ _ hsw4).mono ?_
    rintro e w5 ⟨k, rfl, _, hs5, hu5⟩
    have u5 := uw4.call hu5
    go_wp2_with (fail)
    go_ret3
    exact ⟨a, k, p, rfl, hp1, hp2, u5.below (Nat.le_refl _)⟩
  · skip
    go_wp2_with (fail)
    refine (s_nextI w.heap.size a (by omega) _ hs2).mono ?_
    rintro e w3 ⟨k3, rfl, hk3, hsw3, huw3⟩
    have uw3 := u2.call huw3
    go_wp2_with (fail)
    refine (s_nextI w.heap.size a (by omega) _ hsw3).mono ?_
    rintro e w4 ⟨k4, rfl, hk4, hsw4, huw4⟩
    have uw4 := uw3.call huw4
    go_wp2_with (fail)
    refine (hpk _ _ _ _ _ hsw4).mono ?_
    rintro e w5 ⟨k, rfl, _, hs5, hu5⟩
    have u5 := uw4.call hu5
    go_wp2_with (fail)
    go_ret3
    exact ⟨a, k, p, rfl, hp1, hp2, u5.below (Nat.le_refl _)⟩
  · skip
    go_wp2_with (fail)
    refine (s_nextI w.heap.size 1 (by omega) _ hs2).mono ?_
    rintro e w3 ⟨k3, rfl, hk3, hsw3, huw3⟩
    have uw3 := u2.call huw3
    go_wp2_with (fail)
    refine (s_nextI w.heap.size 1 (by omega) _ hsw3).mono ?_
    rintro e w4 ⟨k4, rfl, hk4, hsw4, huw4⟩
    have uw4 := uw3.call huw4
    go_wp2_with (fail)
    refine (hpk _ _ _ _ _ hsw4).mono ?_
    rintro e w5 ⟨k, rfl, _, hs5, hu5⟩
    have u5 := uw4.call hu5
    go_wp2_with (fail)
    go_ret3
    exact ⟨1, k, p, rfl, hp1, hp2, u5.below (Nat.le_refl _)⟩
set_option maxRecDepth 20000 in
set_option maxHeartbeats 2000000 in
theorem s_DrawCountCarries (A : Option Addr) (n c : Nat) (w : World) (hn : n ≤ 4096) (hs : YB w w.heap.size A n) : Calls Try.prog 36 #[.slice A n c] w (fun e w' => ∃ a k p : Int, e = .returned (.tuple #[.int .i64 a, .int .i64 k, .int .i64 p]) ∧ -3 ≤ p ∧ p ≤ 101 ∧ Below w.heap.size w w') := by
  have hf := s_l01From A n c w hn hs
  have hfv := fun W h => s_DrawFactorialValuation A n c W hn h
  have hpk := fun x y z W h => s_pick5 w.heap.size x y z (-1) 1000000000000 W h
  clear hn
  go_enter Try.func36, Try.ntmps36
  go_wp2_with (fail)
  refine hf.mono ?_
  rintro e w1 ⟨rfl, hs1, hb1⟩
  have u1 := Up.of (g := w.heap.size) hb1
  go_wp2_with (fail)
  refine (hfv _ (hs.call hb1)).mono ?_
  rintro e w2 ⟨a, p, rfl, ha1, ha2, hp1, hp2, hb2⟩
  have hs2 := hs1.call hb2
  have u2 := u1.thenB hb2
  clear hb1 hb2 hf hfv hs1 u1 hs
  go_wp2_with (fail)
  refine (s_nextI w.heap.size 100 (by omega) _ hs2).mono ?_
  rintro e w3 ⟨k3, rfl, hk3, hsw3, huw3⟩
  have uw3 := u2.call huw3
  go_wp2_with (fail)
  refine (s_nextI w.heap.size 1000000 (by omega) _ hsw3).mono ?_
  rintro e w4 ⟨k4, rfl, hk4, hsw4, huw4⟩
  have uw4 := uw3.call huw4
  go_wp2_with (fail)
  refine (hpk _ _ _ _ hsw4).mono ?_
  rintro e w5 ⟨k, rfl, _, hs5, hu5⟩
  have u5 := uw4.call hu5
  go_wp2_with (fail)
  go_ret3
  exact ⟨a, k, p, rfl, hp1, hp2, u5.below (Nat.le_refl _)⟩
end Go.Proofs.Ythjoegoeaiemdaa

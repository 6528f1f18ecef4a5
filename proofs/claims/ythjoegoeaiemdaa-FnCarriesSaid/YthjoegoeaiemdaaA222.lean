/- Draws of polynomials. -/
import Derived.Test.YthjoegoeaiemdaaA220
import Derived.Test.YthjoegoeaiemdaaA16
namespace Go.Proofs.Ythjoegoeaiemdaa
set_option linter.unusedVariables false
set_option linter.unusedSimpArgs false
open Go.RowKit

set_option maxRecDepth 20000 in
set_option maxHeartbeats 2000000 in
theorem s_l08DrawPrime (g : Nat) (w : World) (hs : SRC w g) : Calls Try.prog 144 #[.pointer (some ⟨g, 0, none⟩)] w (NX g (fun r => -3 ≤ r ∧ r ≤ 101) w) := by
  have hpk := fun W h => s_pick7 g 2 3 5 7 2 3 13 W h
  have hdp := fun W h => s_l01DrawPrime g W h
  have u0 : Up g w.heap.size w w := Up.refl
  go_enter Try.func144, Try.ntmps144
  go_wp2_with (fail)
  refine (s_nextI g 30 (by omega) _ hs).mono ?_
  rintro e w2 ⟨k2, rfl, hk2, hsw2, huw2⟩
  have uw2 := u0.call huw2
  by_cases hk0 : k2 = 0
  · have hz : ((k2 : Int) == 0) = true := by rw [beq_iff_eq]; omega
    clear hk0
    go_wp2_with (fail)
    refine (hdp _ hsw2).mono ?_
    rintro e w3 ⟨r, rfl, hr, hs3, hu3⟩
    go_wp2_with (fail)
    go_ret
    exact ⟨r, rfl, hr, hs3, uw2.call hu3⟩
  · have hz : ((k2 : Int) == 0) = false := by rw [beq_eq_false_iff_ne]; omega
    clear hk0
    go_wp2_with (fail)
    refine (hpk _ hsw2).mono ?_
    rintro e w3 ⟨r, rfl, hr, hs3, hu3⟩
    go_wp2_with (fail)
    go_ret
    exact ⟨r, rfl, by simp at hr; omega, hs3, uw2.call hu3⟩
theorem ints_snocD (l : List Int) (x : Int) : ints (l ++ [x]) = ints l ++ [Value.int .i64 x] := by simp [ints]
/-- A list that a draw hands back. -/
def GL (g m : Nat) (w : World) (e : Ending) (w' : World) : Prop := ∃ (A : Option Addr) (c : Nat) (xs : List Int), e = .returned (.slice A m c) ∧ m = xs.length ∧ w'.ownsRow w.heap.size 2 1 (.slice A m c) m (ints xs) ∧ SRC w' g ∧ Up g w.heap.size w w'
/-- One more number at a list's end. -/
theorem gl_more {w ws w7 : World} {g m c : Nat} {A : Option Addr} {xs : List Int} {x : Int} {v : Value} {o : Obj} (hg : g < w.heap.size) (ho : ws.ownsRow w.heap.size 2 1 (.slice A m c) m (ints xs)) (hs : SRC ws g) (hu : Up g w.heap.size w ws)
    (h7 : w7.ownsRow w.heap.size 2 1 v (m + 1) (ints xs ++ [.int .i64 x])) (hg7 : (ws.alloc o).grownBy w7 (Value.slice A m c).ownBlock) :
    w7.ownsRow w.heap.size 2 1 v (m + 1) (ints (xs ++ [x])) ∧ SRC w7 g ∧ Up g w.heap.size w w7 := by
  have hb := (Below.refl ws.heap.size ws).alloc (Nat.le_refl _) o
  refine ⟨by rw [ints_snocD]; exact h7, (hs.call hb).grown hg7 (fun k hk => by have := (ho.lt k hk).1; omega), ?_⟩
  exact hu.trans (Up.of ((hb.mono (B' := w.heap.size) hu.size).grown hg7 (by have := hu.size; simp; omega) (fun k hk => (ho.lt k hk).1)))
set_option maxRecDepth 20000 in
set_option maxHeartbeats 2000000 in
theorem s_l06Valid (g d : Nat) (w : World) (hd : d ≤ 9) (hs : SRC w g) : Calls Try.prog 170 #[.pointer (some ⟨g, 0, none⟩), .int .i64 d] w (GL g (d + 1) w) := by
  have hpk := fun x y z W h => s_pick4 g x y 0 z W h
  have hpk2 := fun x y W h => s_pick4 g 1 1 x y W h
  have hgw := hs.lt
  obtain ⟨i0, hi, hz0, hz1, hz2⟩ := info_parts infoI64
  have hlit := World.ownsRow_lit (base := w.heap.size) (e := 2) (size := 1) w #[] 0 (Nat.le_refl _) (by simp [maxLen]) rfl
  have hbl := (Below.refl w.heap.size w).alloc (Nat.le_refl _) (.cells #[] 2)
  have hs0 := hs.call hbl
  go_enter Try.func170, Try.ntmps170
  go_wp2_with (fail)
  go_loopw [5, 6] (fun u5 u6 wr => ∃ (k : Nat) (xs : List Int), k ≤ d ∧ u6 = .int .i64 k ∧ k = xs.length ∧ wr.ownsRow w.heap.size 2 1 u5 k (ints xs) ∧ SRC wr g ∧ Up g w.heap.size w wr) (fun _ u6 _ => d - (intOf u6).toNat)
  case atStart => exact ⟨0, [], Nat.zero_le _, rfl, rfl, hlit, hs0, Up.of hbl⟩
  case round =>
    clear hlit hbl hs0
    obtain ⟨ws, rfl⟩ : ∃ ws : World, ws = wr := ⟨_, rfl⟩
    obtain ⟨k, xs, hk, rfl, hkx, hown, hs1, hu1⟩ := hrel
    obtain ⟨A3, c3, rfl, _⟩ := own_slice' hown
    have HKX := Lib.hid hkx
    clear hkx
    by_cases hlt : k < d
    · skip
      go_wp2_with (fail)
      refine (s_nextI g 13 (by omega) _ hs1).mono ?_
      rintro e w2 ⟨k2, rfl, hk2, hsw2, huw2⟩
      have uw2 := hu1.call huw2
      go_wp2_with (fail)
      refine (s_nextI g 5 (by omega) _ hsw2).mono ?_
      rintro e w3 ⟨k3, rfl, hk3, hsw3, huw3⟩
      have uw3 := uw2.call huw3
      go_wp2_with (fail)
      refine (s_nextI g 201 (by omega) _ hsw3).mono ?_
      rintro e w4 ⟨k4, rfl, hk4, hsw4, huw4⟩
      have uw4 := uw3.call huw4
      go_wp2_with (fail)
      refine (hpk _ _ _ _ hsw4).mono ?_
      rintro e w5 ⟨x, rfl, _, hs5, hu5⟩
      have u5 := uw4.call hu5
      have o2 := up_own (B := 0) hown huw2 hgw
      have o3 := up_own (B := 0) o2 huw3 hgw
      have o4 := up_own (B := 0) o3 huw4 hgw
      have o5 := up_own (B := 0) o4 hu5 hgw
      have hz5 := u5.size
      clear hown o2 o3 o4 huw2 huw3 huw4 hu5 uw2 uw3 uw4 hu1 hs1 hsw2 hsw3 hsw4 hk2 hk3 hk4
      go_wp2_with (at_builtin; refine wpList_append_src rfl (.tmp 13) (.tmp 26) 24 rfl w.heap.size 2 i0 (.int .i64 0) 1 8 Try.underlying24 hi hz0 hz1 hz2 rfl (by omega) (.slice A3 k c3) k (ints xs) rfl (World.ownsRow.alloc o5 _) (some ⟨w5.heap.size, 0, none⟩) 1 1 [.int .i64 x] rfl rfl (one_src w5 _ _) (by intro h; cases h) (by intro u hu; simp at hu; subst hu; rfl) (by simp only [maxLen]; omega) (by omega) (by simp; omega) ?_; intro v7 w7 hown7 hg7 hat7)
      obtain ⟨q1, q2, q3⟩ := gl_more hgw o5 hs5 u5 hown7 hg7
      go_roundw
      case rel => exact ⟨k + 1, xs ++ [x], by omega, by go_num, by have := HKX.out; simp; omega, q1, q2, q3⟩
      case measure => simp [intOf]; omega
    · obtain rfl : k = d := by omega
      go_wp2_with (fail)
      refine (s_nextI g 6 (by omega) _ hs1).mono ?_
      rintro e w2 ⟨k2, rfl, hk2, hsw2, huw2⟩
      have uw2 := hu1.call huw2
      go_wp2_with (fail)
      refine (s_nextI g 3 (by omega) _ hsw2).mono ?_
      rintro e w3 ⟨k3, rfl, hk3, hsw3, huw3⟩
      have uw3 := uw2.call huw3
      go_wp2_with (fail)
      refine (hpk2 _ _ _ hsw3).mono ?_
      rintro e w5 ⟨x, rfl, _, hs5, hu5⟩
      have u5 := uw3.call hu5
      have o2 := up_own (B := 0) hown huw2 hgw
      have o3 := up_own (B := 0) o2 huw3 hgw
      have o5 := up_own (B := 0) o3 hu5 hgw
      have hz5 := u5.size
      clear hown o2 o3 huw2 huw3 hu5 uw2 uw3 hu1 hs1 hsw2 hsw3 hk2 hk3
      go_wp2_with (at_builtin; refine wpList_append_src rfl (.tmp 28) (.tmp 38) 24 rfl w.heap.size 2 i0 (.int .i64 0) 1 8 Try.underlying24 hi hz0 hz1 hz2 rfl (by omega) (.slice A3 k c3) k (ints xs) rfl (World.ownsRow.alloc o5 _) (some ⟨w5.heap.size, 0, none⟩) 1 1 [.int .i64 x] rfl rfl (one_src w5 _ _) (by intro h; cases h) (by intro u hu; simp at hu; subst hu; rfl) (by simp only [maxLen]; omega) (by omega) (by simp; omega) ?_; intro v7 w7 hown7 hg7 hat7)
      obtain ⟨q1, q2, q3⟩ := gl_more hgw o5 hs5 u5 hown7 hg7
      obtain ⟨A7, c7, rfl, _⟩ := own_slice' q1
      go_ret
      exact ⟨A7, c7, xs ++ [x], rfl, by have := HKX.out; simp; omega, q1, q2, q3⟩
end Go.Proofs.Ythjoegoeaiemdaa

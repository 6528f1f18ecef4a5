/- Draws of polynomials, rarely of others; of a prime and a polynomial. -/
import Derived.Test.YthjoegoeaiemdaaA222
namespace Go.Proofs.Ythjoegoeaiemdaa
set_option linter.unusedVariables false
set_option linter.unusedSimpArgs false
open Go.RowKit

theorem own_drD {w : World} {base n : Nat} {e : TypeId} {size : Nat} {v : Value} {xs : List Value} (h : w.ownsRow base e size v n xs) (k : Nat) : (w.drewN k).ownsRow base e size v n xs := h
theorem up_b {g : Nat} {w w' : World} (h : Up g w.heap.size w w') (hg : g < w.heap.size) : w.heap.size ≤ w'.heap.size := h.size
set_option maxRecDepth 20000 in
set_option maxHeartbeats 2000000 in
theorem s_l06Draw (g : Nat) (w : World) (hs : SRC w g) : Calls Try.prog 145 #[.pointer (some ⟨g, 0, none⟩)] w (fun e w' => ∃ m, m ≤ 12 ∧ GL g m w e w') := by
  have hv := fun (d : Nat) W hd h => s_l06Valid g d W hd h
  have hpk := fun W h => s_pick3 g 1000000 1000001 (-1000000) W h
  have hgw := hs.lt
  obtain ⟨i0, hi, hz0, hz1, hz2⟩ := info_parts infoI64
  have u0 : Up g w.heap.size w w := Up.refl
  go_enter Try.func145, Try.ntmps145
  go_wp2_with (fail)
  refine (s_nextI g 6 (by omega) _ hs).mono ?_
  rintro e w2 ⟨k2, rfl, hk2, hsw2, huw2⟩
  have uw2 := u0.call huw2
  go_wp2_with (fail)
  refine (hv k2 _ (by omega) hsw2).mono ?_
  rintro e w3 ⟨A3, c3, xs, rfl, hx, o3, hs3, hu3⟩
  have u3 := uw2.call hu3
  have o3 := own_mono (base' := w.heap.size) o3 uw2.size
  have HX := Lib.hid hx
  clear hu3 uw2 huw2 hsw2 hx
  go_wp2_with (fail)
  refine (s_nextI g 24 (by omega) _ hs3).mono ?_
  rintro e w4 ⟨k4, rfl, hk4, hsw4, huw4⟩
  have uw4 := u3.call huw4
  have o4 := up_own (B := 0) o3 huw4 hgw
  have hz4 := uw4.size
  clear o3 huw4 hs3 u3
  have hk4 : k4 = 0 ∨ k4 = 1 ∨ k4 = 2 ∨ k4 = 3 ∨ 3 < k4 := by omega
  rcases hk4 with rfl | rfl | rfl | rfl | hk3
  · skip
    go_wp2_with (at_builtin; refine wpList_append_src rfl (.tmp 12) (.tmp 13) 24 rfl w.heap.size 2 i0 (.int .i64 0) 1 8 Try.underlying24 hi hz0 hz1 hz2 rfl (by omega) (.slice A3 (k2 + 1) c3) (k2 + 1) (ints xs) rfl (World.ownsRow.alloc o4 _) (some ⟨w4.heap.size, 0, none⟩) 1 1 [.int .i64 0] rfl rfl (one_src w4 _ _) (by intro h; cases h) (by intro u hu; simp at hu; subst hu; rfl) (by simp only [maxLen]; omega) (by omega) (by simp; omega) ?_; intro v7 w7 hown7 hg7 hat7)
    obtain ⟨q1, q2, q3⟩ := gl_more hgw o4 hsw4 uw4 hown7 hg7
    obtain ⟨A7, c7, rfl, _⟩ := own_slice' q1
    go_wp2_with (fail)
    go_ret
    exact ⟨k2 + 1 + 1, by omega, A7, c7, xs ++ [0], rfl, by have := HX.out; simp; omega, q1, q2, q3⟩
  · obtain ⟨g3, rfl, hg3, _, hc3⟩ := own_src o4 (by omega)
    go_wp2_with (fail)
    refine (hpk _ hsw4).mono ?_
    rintro e w5 ⟨x, rfl, _, hs5, hu5⟩
    have u5 := uw4.call hu5
    have o5 := up_own (B := 0) o4 hu5 hgw
    have hz5 := u5.size
    obtain ⟨g3', e3', _, _, hc5⟩ := own_src o5 (by omega)
    injection e3' with e3'
    injection e3' with e3'
    subst e3'
    have hcell := hc5 0 _ (ints_at (l := xs) (by rw [← HX.out]; omega))
    have hfr := o5.frozenAt 0
    obtain ⟨st1, st2⟩ := o5.stored 0 (.int .i64 x)
    rw [show (ints xs).set 0 (.int .i64 x) = ints (xs.set 0 x) by simp [ints, List.map_set]] at st1
    have hsf := hs5.grown st2 (fun y hy => by injection hy with hy; omega)
    have huf := u5.trans (Up.of ((Below.refl w.heap.size w5).grown st2 hz5 (fun y hy => by injection hy with hy; omega)))
    clear hc3 hc5 hs5 u5 hu5 o5 o4
    go_wp2_with (fail)
    go_ret
    exact ⟨k2 + 1, by omega, _, c3, xs.set 0 x, rfl, by rw [List.length_set]; exact HX.out, st1, hsf, huf⟩
  · clear o4
    go_wp2_with (fail)
    refine (s_nextI g 3 (by omega) _ hsw4).mono ?_
    rintro e w5 ⟨k5, rfl, hk5, hsw5, huw5⟩
    have uw5 := uw4.call huw5
    have hv5 := hv (7 + k5) w5 (by omega) hsw5
    rw [show ((7 + k5 : Nat) : Int) = 7 + (k5 : Int) by omega] at hv5
    have hz5 := uw5.size
    clear uw4 hsw4 huw5
    go_wp2_with (fail)
    refine hv5.mono ?_
    rintro e w6 ⟨A6, c6, ys, rfl, hy, o6, hs6, hu6⟩
    have HY := Lib.hid hy
    clear hy
    go_wp2_with (fail)
    go_ret
    exact ⟨7 + k5 + 1, by omega, A6, c6, ys, rfl, HY.out, own_mono o6 hz5, hs6, uw5.call hu6⟩
  · clear o4
    have hlit := World.ownsRow_lit (base := w.heap.size) (e := 2) (size := 1) w4 #[] 0 hz4 (by simp [maxLen]) rfl
    have hbl := (Below.refl w4.heap.size w4).alloc (Nat.le_refl _) (.cells #[] 2)
    go_wp2_with (fail)
    go_ret
    exact ⟨0, by omega, _, 0, [], rfl, rfl, hlit, hsw4.call hbl, uw4.thenB hbl⟩
  · have t0 : ((k4 : Int) == 0) = false := by rw [beq_eq_false_iff_ne]; omega
    have t1 : ((k4 : Int) == 1) = false := by rw [beq_eq_false_iff_ne]; omega
    have t2 : ((k4 : Int) == 2) = false := by rw [beq_eq_false_iff_ne]; omega
    have t3 : ((k4 : Int) == 3) = false := by rw [beq_eq_false_iff_ne]; omega
    go_wp2_with (fail)
    go_ret
    exact ⟨k2 + 1, by omega, A3, c3, xs, rfl, HX.out, o4, hsw4, uw4⟩
theorem prod_bd {a p : Int} (ha : -10000 ≤ a ∧ a ≤ 10000) (hp : -3 ≤ p ∧ p ≤ 101) : -1010000 ≤ a * p ∧ a * p ≤ 1010000 := by
  have h1 : (a * p).natAbs = a.natAbs * p.natAbs := Int.natAbs_mul a p
  have h2 : a.natAbs * p.natAbs ≤ 10000 * 101 := Nat.mul_le_mul (by omega) (by omega)
  omega
theorem abs_bd {y : Int} (h1 : -1010000 ≤ y) (h2 : y ≤ 1010000) : abs64 y ≤ 10000 → -10000 ≤ y ∧ y ≤ 10000 := by
  unfold abs64
  rw [IntWalk.wrap64_in (-y) (by omega)]
  omega
set_option maxRecDepth 20000 in
set_option maxHeartbeats 2000000 in
theorem s_l13Valid (g d : Nat) (p : Int) (w : World) (hd : d ≤ 9) (hp : -3 ≤ p ∧ p ≤ 101) (hs : SRC w g) : Calls Try.prog 146 #[.pointer (some ⟨g, 0, none⟩), .int .i64 p, .int .i64 d] w (GL g (d + 1) w) := by
  have hpk := fun W h => s_pick6 g 0 1 1 2 (-1) 3 W h
  have hpk2 := fun W h => s_pick5 g 1 1 1 p 2 W h
  have hgw := hs.lt
  obtain ⟨i0, hi, hz0, hz1, hz2⟩ := info_parts infoI64
  have hlit := World.ownsRow_lit (base := w.heap.size) (e := 2) (size := 1) w #[] 0 (Nat.le_refl _) (by simp [maxLen]) rfl
  have hbl := (Below.refl w.heap.size w).alloc (Nat.le_refl _) (.cells #[] 2)
  have hs0 := hs.call hbl
  have HP := Lib.hid hp
  clear hp
  go_enter Try.func146, Try.ntmps146
  go_wp2_with (fail)
  go_loopw [7, 8] (fun u7 u8 wr => ∃ (k : Nat) (xs : List Int), k ≤ d ∧ u8 = .int .i64 k ∧ k = xs.length ∧ wr.ownsRow w.heap.size 2 1 u7 k (ints xs) ∧ SRC wr g ∧ Up g w.heap.size w wr) (fun _ u8 _ => d - (intOf u8).toNat)
  case atStart => exact ⟨0, [], Nat.zero_le _, rfl, rfl, hlit, hs0, Up.of hbl⟩
  case round =>
    clear hlit hbl hs0
    obtain ⟨ws, rfl⟩ : ∃ ws : World, ws = wr := ⟨_, rfl⟩
    obtain ⟨k, xs, hk, rfl, hkx, hown, hs1, hu1⟩ := hrel
    obtain ⟨A3, c3, rfl, _⟩ := own_slice' hown
    have HKX := Lib.hid hkx
    clear hkx
    by_cases hlt : k < d
    · go_wp2_with (fail)
      refine (hpk _ hs1).mono ?_
      rintro e w2 ⟨x0, rfl, hx0, hs2, hu2⟩
      have u2 := hu1.call hu2
      have o2 := up_own (B := 0) hown hu2 hgw
      have hx0 : -10000 ≤ x0 ∧ x0 ≤ 10000 := by simp at hx0; omega
      go_wp2_with (fail)
      refine (s_nextI g 5 (by omega) _ hs2).mono ?_
      rintro e w5 ⟨k5, rfl, hk5, hsw5, huw5⟩
      have uw5 := u2.call huw5
      have o5 := up_own (B := 0) o2 huw5 hgw
      have hz5 := uw5.size
      clear hown hu2 u2 hs2 o2 huw5 hs1 hu1
      go_wp2_with (fail)
      go_loopw [9, 10] (fun u9 u10 wr => ∃ (x : Int) (j : Nat), u9 = .int .i64 x ∧ u10 = .int .i64 j ∧ j ≤ 5 ∧ Hid (-10000 ≤ x ∧ x ≤ 10000) ∧ DR w5 wr) (fun _ u10 _ => (intOf u10).toNat)
      case atStart => exact ⟨x0, k5, rfl, rfl, by omega, hx0, DR.refl _⟩
      case round =>
        obtain ⟨wq, rfl⟩ : ∃ wq : World, wq = wr := ⟨_, rfl⟩
        obtain ⟨x, j, rfl, rfl, hj, HXB, m5, rfl⟩ := hrel
        by_cases hj0 : 0 < j
        · have hj1 : (0 : Int) < (j : Int) := by omega
          obtain ⟨b1, b2⟩ := prod_bd HXB.out HP.out
          have hwp0 : wrap64 (x * p) = x * p := IntWalk.wrap64_in _ (by omega)
          obtain ⟨y, hy⟩ : ∃ y, y = x * p := ⟨_, rfl⟩
          rw [← hy] at b1 b2
          have hwp : wrap64 (x * p) = y := by rw [hwp0, hy]
          have HWP := Lib.hid hwp
          have hab := fun W => s_l01Abs y W
          have hae := abs_bd (y := y) b1 b2
          clear hwp0 hy
          generalize abs64 y = ay at *
          by_cases hay : ay ≤ 10000
          · have HXY := Lib.hid (hae hay)
            clear hae b1 b2
            go_wp2_with (go_at_call 102; refine (hab _).mono ?_; rintro e w6 ⟨rfl, q6, rfl⟩)
            go_roundw
            case rel => exact ⟨y, j - 1, by first | rfl | rw [HWP.out], by go_num, by omega, HXY.out, by first | exact dq1 | exact dq2 | exact ⟨_, rfl⟩⟩
            case measure => simp [intOf]; omega
          · clear hae b1 b2
            go_wp2_with (fail)
            refine (hab _).mono ?_
            rintro e w6 ⟨rfl, q6, rfl⟩
            have o6 := own_drD (own_drD o5 m5) q6
            have hs6 := (hsw5.drewN m5).drewN q6
            have u6 := (uw5.drewN m5).drewN q6
            have hz6 := u6.size
            generalize (w5.drewN m5).drewN q6 = w6 at *
            go_wp2_with (at_builtin; refine wpList_append_src rfl (.tmp 36) (.tmp 38) 24 rfl w.heap.size 2 i0 (.int .i64 0) 1 8 Try.underlying24 hi hz0 hz1 hz2 rfl (by omega) (.slice A3 k c3) k (ints xs) rfl (World.ownsRow.alloc o6 _) (some ⟨w6.heap.size, 0, none⟩) 1 1 [.int .i64 x] rfl rfl (one_src w6 _ _) (by intro h; cases h) (by intro u hu; simp at hu; subst hu; rfl) (by simp only [maxLen]; omega) (by omega) (by simp; omega) ?_; intro v7 w7 hown7 hg7 hat7)
            obtain ⟨q1, q2, q3⟩ := gl_more hgw o6 hs6 u6 hown7 hg7
            go_roundw
            case rel => exact ⟨k + 1, xs ++ [x], by omega, by go_num, by have := HKX.out; simp; omega, q1, q2, q3⟩
            case measure => simp [intOf]; omega
        · obtain rfl : j = 0 := by omega
          have hj1 : ¬ (0 : Int) < ((0 : Nat) : Int) := by omega
          have o6 := own_drD o5 m5
          have hs6 := hsw5.drewN m5
          have u6 := uw5.drewN m5
          have hz6 := u6.size
          generalize w5.drewN m5 = w6 at *
          go_wp2_with (at_builtin; refine wpList_append_src rfl (.tmp 36) (.tmp 38) 24 rfl w.heap.size 2 i0 (.int .i64 0) 1 8 Try.underlying24 hi hz0 hz1 hz2 rfl (by omega) (.slice A3 k c3) k (ints xs) rfl (World.ownsRow.alloc o6 _) (some ⟨w6.heap.size, 0, none⟩) 1 1 [.int .i64 x] rfl rfl (one_src w6 _ _) (by intro h; cases h) (by intro u hu; simp at hu; subst hu; rfl) (by simp only [maxLen]; omega) (by omega) (by simp; omega) ?_; intro v7 w7 hown7 hg7 hat7)
          obtain ⟨q1, q2, q3⟩ := gl_more hgw o6 hs6 u6 hown7 hg7
          go_roundw
          case rel => exact ⟨k + 1, xs ++ [x], by omega, by go_num, by have := HKX.out; simp; omega, q1, q2, q3⟩
          case measure => simp [intOf]; omega
    · obtain rfl : k = d := by omega
      have hz1' := hu1.size
      go_wp2_with (fail)
      refine (hpk2 _ hs1).mono ?_
      rintro e w5 ⟨x, rfl, _, hs5, hu5⟩
      have u5 := hu1.call hu5
      have o5 := up_own (B := 0) hown hu5 hgw
      have hz5 := u5.size
      clear hown hu5 hu1 hs1
      go_wp2_with (at_builtin; refine wpList_append_src rfl (.tmp 40) (.tmp 45) 24 rfl w.heap.size 2 i0 (.int .i64 0) 1 8 Try.underlying24 hi hz0 hz1 hz2 rfl (by omega) (.slice A3 k c3) k (ints xs) rfl (World.ownsRow.alloc o5 _) (some ⟨w5.heap.size, 0, none⟩) 1 1 [.int .i64 x] rfl rfl (one_src w5 _ _) (by intro h; cases h) (by intro u hu; simp at hu; subst hu; rfl) (by simp only [maxLen]; omega) (by omega) (by simp; omega) ?_; intro v7 w7 hown7 hg7 hat7)
      obtain ⟨q1, q2, q3⟩ := gl_more hgw o5 hs5 u5 hown7 hg7
      obtain ⟨A7, c7, rfl, _⟩ := own_slice' q1
      go_ret
      exact ⟨A7, c7, xs ++ [x], rfl, by have := HKX.out; simp; omega, q1, q2, q3⟩
/-- A small number and a list that a draw hands back. -/
def PL (g : Nat) (w : World) (e : Ending) (w' : World) : Prop := ∃ (p : Int) (A : Option Addr) (m c : Nat) (xs : List Int), e = .returned (.tuple #[.int .i64 p, .slice A m c]) ∧ -3 ≤ p ∧ p ≤ 101 ∧ m = xs.length ∧ m ≤ 12 ∧ IS w' w'.heap.size A xs ∧ SRC w' g ∧ Up g w.heap.size w w'
theorem own_isD {w : World} {base n c : Nat} {A : Option Addr} {l : List Int} (h : w.ownsRow base 2 1 (.slice A n c) n (ints l)) (hn : n = l.length) : IS w w.heap.size A l := fun h0 => by
  obtain ⟨g, rfl, _, h2, h3⟩ := own_src h (by omega)
  exact ⟨g, 0, rfl, h2, fun k hk => by rw [Nat.zero_add]; exact h3 k _ (ints_at (l := l) hk)⟩
set_option maxRecDepth 20000 in
set_option maxHeartbeats 2000000 in
theorem s_l13Draw (g : Nat) (w : World) (hs : SRC w g) : Calls Try.prog 93 #[.pointer (some ⟨g, 0, none⟩)] w (PL g w) := by
  have hdp := fun W h => s_l08DrawPrime g W h
  have hd6 := fun W h => s_l06Draw g W h
  have hd13 := fun (d : Nat) p W hd hp h => s_l13Valid g d p W hd hp h
  go_enter Try.func93, Try.ntmps93
  go_wp2_with (fail)
  refine (hdp _ hs).mono ?_
  rintro e w1 ⟨p, rfl, hp, hs1, hu1⟩
  have hsm := fun W => s_l01Small p W (by omega)
  have HP := Lib.hid hp
  clear hdp hs hp
  cases hb : smallB p
  · rw [hb] at hsm
    clear hb
    go_wp2_with (fail)
    refine (hsm _).mono ?_
    rintro e w2 ⟨rfl, q2, rfl⟩
    go_wp2_with (fail)
    refine (hd6 _ (hs1.drewN q2)).mono ?_
    rintro e w3 ⟨m, hm, A3, c3, xs, rfl, hx, o3, hs3, hu3⟩
    have HX := Lib.hid hx
    clear hx
    go_wp2_with (fail)
    go_ret2
    exact ⟨p, A3, m, c3, xs, rfl, HP.out.1, HP.out.2, HX.out, hm, own_isD o3 HX.out, hs3, (hu1.drewN q2).call hu3⟩
  · rw [hb] at hsm
    clear hb
    go_wp2_with (fail)
    refine (hsm _).mono ?_
    rintro e w2 ⟨rfl, q2, rfl⟩
    have hs2 := hs1.drewN q2
    have u2 := hu1.drewN q2
    generalize w1.drewN q2 = w2 at *
    go_wp2_with (fail)
    refine (s_nextI g 12 (by omega) _ hs2).mono ?_
    rintro e w3 ⟨k3, rfl, hk3, hsw3, huw3⟩
    have uw3 := u2.call huw3
    by_cases hk0 : k3 = 0
    · have hz : ((k3 : Int) == 0) = true := by rw [beq_iff_eq]; omega
      clear hk0
      go_wp2_with (fail)
      refine (hd6 _ hsw3).mono ?_
      rintro e w4 ⟨m, hm, A3, c3, xs, rfl, hx, o3, hs3, hu3⟩
      have HX := Lib.hid hx
      clear hx
      go_wp2_with (fail)
      go_ret2
      exact ⟨p, A3, m, c3, xs, rfl, HP.out.1, HP.out.2, HX.out, hm, own_isD o3 HX.out, hs3, uw3.call hu3⟩
    · have hz : ((k3 : Int) == 0) = false := by rw [beq_eq_false_iff_ne]; omega
      clear hk0
      go_wp2_with (fail)
      refine (s_nextI g 7 (by omega) _ hsw3).mono ?_
      rintro e w4 ⟨k4, rfl, hk4, hsw4, huw4⟩
      have uw4 := uw3.call huw4
      go_wp2_with (fail)
      refine (hd13 k4 p _ (by omega) HP.out hsw4).mono ?_
      rintro e w5 ⟨A3, c3, xs, rfl, hx, o3, hs3, hu3⟩
      have HX := Lib.hid hx
      clear hx
      go_wp2_with (fail)
      go_ret2
      exact ⟨p, A3, k4 + 1, c3, xs, rfl, HP.out.1, HP.out.2, HX.out, by omega, own_isD o3 HX.out, hs3, uw4.call hu3⟩
set_option maxHeartbeats 1000000 in
theorem s_DrawStrassmannCount (A : Option Addr) (n c : Nat) (w : World) (hn : n ≤ 4096) (hs : YB w w.heap.size A n) : Calls Try.prog 42 #[.slice A n c] w (fun e w' => ∃ (p : Int) (B : Option Addr) (m d : Nat) (xs : List Int), e = .returned (.tuple #[.int .i64 p, .slice B m d]) ∧ -3 ≤ p ∧ p ≤ 101 ∧ m = xs.length ∧ m ≤ 12 ∧ IS w' w'.heap.size B xs ∧ Below w.heap.size w w') := by
  have hf := s_l01From A n c w hn hs
  have hd := fun W h => s_l13Draw w.heap.size W h
  clear hn hs
  go_enter Try.func42, Try.ntmps42
  go_wp2_with (fail)
  refine hf.mono ?_
  rintro e w1 ⟨rfl, hs1, hb1⟩
  go_wp2_with (fail)
  refine (hd _ hs1).mono ?_
  rintro e w2 ⟨p, B, m, d, xs, rfl, hp1, hp2, hx, hm, his, hs2, hu2⟩
  have HX := Lib.hid hx
  clear hx
  go_wp2_with (fail)
  go_ret2
  exact ⟨p, B, m, d, xs, rfl, hp1, hp2, HX.out, hm, his, ((Up.of (g := w.heap.size) hb1).call hu2).below (Nat.le_refl _)⟩
end Go.Proofs.Ythjoegoeaiemdaa

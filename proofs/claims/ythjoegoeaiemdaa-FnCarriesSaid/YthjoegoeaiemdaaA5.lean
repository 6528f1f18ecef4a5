/- Contracts and walk: CountCarries. -/
import Derived.Test.YthjoegoeaiemdaaA3
namespace Go.Proofs.Ythjoegoeaiemdaa
set_option linter.unusedVariables false
set_option linter.unusedSimpArgs false
open Go.RowKit

theorem dq3 {w : World} {n k j : Nat} : ∃ m, ((w.drewN n).drewN k).drewN j = w.drewN m := by simp only [World.drewN_drewN]; exact ⟨_, rfl⟩
/-- The carries of a + b + c at p. -/
def car (p a b c : Nat) : Nat :=
  if h : 2 ≤ p ∧ 0 < a + b then (a % p + b % p + c) / p + car p (a / p) (b / p) ((a % p + b % p + c) / p) else 0
termination_by a + b
decreasing_by
  have h1 := Nat.div_le_self a p
  have h2 := Nat.div_le_self b p
  rcases Nat.eq_zero_or_pos a with h0 | h0
  · have := Nat.div_lt_self (show 0 < b by omega) h.1; omega
  · have := Nat.div_lt_self h0 h.1; omega
theorem half {p a : Nat} (hp : 2 ≤ p) : 2 * (a / p) ≤ a := by
  have : a / p ≤ a / 2 := Nat.div_le_div_left hp (by omega)
  omega
theorem car_pos {p a b c : Nat} (hp : 2 ≤ p) (h : 0 < a + b) : car p a b c = (a % p + b % p + c) / p + car p (a / p) (b / p) ((a % p + b % p + c) / p) := by rw [car, dif_pos ⟨hp, h⟩]
theorem car_zero (p c : Nat) : car p 0 0 c = 0 := by rw [car]; simp
theorem carry_le {p a b c : Nat} (hp : 2 ≤ p) (hc : c ≤ 1) : (a % p + b % p + c) / p ≤ 1 := by
  have h1 := Nat.mod_lt a (show p > 0 by omega)
  have h2 := Nat.mod_lt b (show p > 0 by omega)
  have : (a % p + b % p + c) / p < 2 := Nat.div_lt_of_lt_mul (by omega)
  omega
theorem car_le {p : Nat} (hp : 2 ≤ p) : ∀ m a b c : Nat, a + b ≤ m → c ≤ 1 → car p a b c ≤ a + b := by
  intro m
  induction m with
  | zero => intro a b c h _
            obtain rfl : a = 0 := by omega
            obtain rfl : b = 0 := by omega
            rw [car_zero]; omega
  | succ m ih =>
    intro a b c h hc
    rcases Nat.eq_zero_or_pos (a + b) with h0 | h0
    · obtain rfl : a = 0 := by omega
      obtain rfl : b = 0 := by omega
      rw [car_zero]; omega
    · rw [car_pos hp h0]
      have h1 := half (a := a) hp
      have h2 := half (a := b) hp
      have h3 := carry_le (a := a) (b := b) hp hc
      have h4 := ih (a / p) (b / p) _ (by omega) h3
      omega
/-- One round, when there is something left: by the carry. -/
theorem carry_cases {p a b c : Nat} (hp : 2 ≤ p) (hc : c ≤ 1) : ((a % p + b % p + c) / p = 1 ∧ p ≤ a % p + b % p + c) ∨ ((a % p + b % p + c) / p = 0 ∧ a % p + b % p + c < p) := by
  have h := carry_le (a := a) (b := b) hp hc
  rcases Nat.lt_or_ge (a % p + b % p + c) p with h1 | h1
  · exact .inr ⟨Nat.div_eq_of_lt h1, h1⟩
  · have := Nat.div_pos h1 (by omega)
    exact .inl ⟨by omega, h1⟩
noncomputable def ccB (a b : Int) : Bool := inB a 0 1000000000000 && inB b 0 1000000000000
noncomputable def ccC (a b p : Int) : Int := codeF p (ccB a b)
noncomputable def ccV (a b p : Int) : Int := if smallB p && ccB a b then (car p.toNat a.toNat b.toNat 0 : Nat) else 0
set_option maxHeartbeats 1000000 in
theorem s_CountCarries (a b p : Int) (w : World) (hp : -9223372036854775808 ≤ p) : Calls Try.prog 38 #[.int .i64 a, .int .i64 b, .int .i64 p] w (Q (.tuple #[.int .i64 (ccV a b p), .int .i64 (ccC a b p)]) w) := by
  cases h1 : smallB p <;> cases h2 : inB a 0 1000000000000 <;> cases h3 : inB b 0 1000000000000
  case true.true.true =>
    obtain ⟨b1, b2⟩ := smallB_t h1
    obtain ⟨b3, b4⟩ := inB_true h2
    obtain ⟨b5, b6⟩ := inB_true h3
    have hc : codeF p true = 0 := by simp [codeF, h1]
    have HC := Lib.hid hc
    have hv : ccV a b p = (car p.toNat a.toNat b.toNat 0 : Nat) := by simp [ccV, ccB, h1, h2, h3]
    have hw : ccC a b p = 0 := by simp [ccC, ccB, h2, h3, hc]
    have HV := Lib.hid hv
    have HW := Lib.hid hw
    clear hc hv hw
    obtain ⟨p, rfl⟩ := Int.eq_ofNat_of_zero_le (show 0 ≤ p by omega)
    obtain ⟨a, rfl⟩ := Int.eq_ofNat_of_zero_le b3
    obtain ⟨b, rfl⟩ := Int.eq_ofNat_of_zero_le b5
    have hp2 : 2 ≤ p := by omega
    have hcl := car_le hp2 (a + b) a b 0 (Nat.le_refl _) (by omega)
    go_enter Try.func38, Try.ntmps38
    go_wp2_with (first | (go_at_call 89; refine (s_l32Code _ _ _ hp).mono ?_; rintro e w' ⟨rfl, nq, rfl⟩; first | rw [h2, HC.out] | rw [h3, HC.out]))
    go_loopw [0, 1, 9, 10] (fun u0 u1 u9 u10 wr => ∃ x y c k : Nat, x ≤ 1000000000000 ∧ y ≤ 1000000000000 ∧ c ≤ 1 ∧ k ≤ 2000000000000 ∧ Hid (k + car p x y c = car p a b 0) ∧ u0 = .int .i64 x ∧ u1 = .int .i64 y ∧ u9 = .int .i64 c ∧ u10 = .int .i64 k ∧ ∃ n, wr = w.drewN n) (fun u0 u1 _ _ _ => (intOf u0).toNat + (intOf u1).toNat)
    case atStart => exact ⟨a, b, 0, 0, by omega, by omega, by omega, by omega, hidP (by omega), rfl, rfl, rfl, rfl, dq1⟩
    case round =>
      obtain ⟨x, y, c, k, hx, hy, hc, hk, HG, rfl, rfl, rfl, rfl, n, rfl⟩ := hrel
      by_cases h0 : 0 < x + y
      · have e1 := half (a := x) hp2
        have e2 := half (a := y) hp2
        have e3 := carry_le (a := x) (b := y) hp2 hc
        have hk' : k + (x % p + y % p + c) / p ≤ 2000000000000 := by
          have hg := HG.out
          rw [car_pos hp2 h0] at hg
          omega
        have m1 : 0 ≤ (x : Int) % p := Int.emod_nonneg _ (by omega)
        have m2 : (x : Int) % p < p := Int.emod_lt_of_pos _ (by omega)
        have m3 : 0 ≤ (y : Int) % p := Int.emod_nonneg _ (by omega)
        have m4 : (y : Int) % p < p := Int.emod_lt_of_pos _ (by omega)
        have m5 : ((x : Int) % p + (y : Int) % p + c) / p = ((x % p + y % p + c) / p : Nat) := by simp
        have m6 : 0 ≤ ((x : Int) % p + (y : Int) % p + c) / p := Int.ediv_nonneg (by omega) (by omega)
        have m7 : ((x : Int) % p + (y : Int) % p + c) / p ≤ 1 := by omega
        have M5 := Lib.hid m5
        clear m5
        by_cases hx0 : 0 < x
        all_goals
          by_cases hy0 : 0 < y
          all_goals
            first
            | omega
            | (go_wp2_with (go_quiet (fail))
               go_roundw
               case rel => exact ⟨x / p, y / p, (x % p + y % p + c) / p, k + (x % p + y % p + c) / p, by omega, by omega, e3, hk', hidP (by have hg := HG.out; rw [car_pos hp2 h0] at hg; omega), by simp, by simp, by simp, by simp, by first | exact dq1 | exact dq2 | exact dq3⟩
               case measure => simp [intOf]; omega)
      · obtain rfl : x = 0 := by omega
        obtain rfl : y = 0 := by omega
        go_wp2_with (fail)
        go_ret2
        have hg := HG.out
        rw [car_zero] at hg
        refine ⟨ret_ii ?_ HW.out.symm, dq1⟩
        rw [HV.out]; simp; omega
  all_goals
    have hx : ccV a b p = 0 := by simp [ccV, ccB, h1, h2, h3]
    have hy : ccC a b p = codeF p (inB a 0 1000000000000 && inB b 0 1000000000000) := rfl
    simp only [h2, h3, codeF, h1] at hy
    simp at hy
    have HX := Lib.hid hx
    have HY := Lib.hid hy
    clear hx hy
    have hct : codeF p true = if smallB p then 0 else 1 := rfl
    have hcf : codeF p false = if smallB p then 2 else 1 := rfl
    simp only [h1] at hct hcf
    simp at hct hcf
    have HT := Lib.hid hct
    have HF := Lib.hid hcf
    clear hct hcf
    go_enter Try.func38, Try.ntmps38
    go_wp2_with (first | (go_at_call 89; refine (s_l32Code _ _ _ hp).mono ?_; rintro e w' ⟨rfl, nq, rfl⟩; first | rw [h2, HT.out] | rw [h2, HF.out] | rw [h3, HT.out] | rw [h3, HF.out]))
    go_ret2
    refine ⟨ret_ii HX.out.symm HY.out.symm, ?_⟩
    repeat (first | exact dq1 | exact dq2 | exact ⟨0, rfl⟩ | (simp only [World.drewN_drewN]; exact ⟨_, rfl⟩))
set_option maxHeartbeats 1000000 in
theorem i_CountCarries (a b p : Int) (w : World) : Calls Try.prog 37 #[.int .i64 a, .int .i64 b, .int .i64 p] w (Q (.tuple #[.int .i64 (ccV a b p), .int .i64 (ccC a b p)]) w) := by
  cases h1 : smallB p <;> cases h2 : inB a 0 1000000000000 <;> cases h3 : inB b 0 1000000000000
  case true.true.true =>
    obtain ⟨b1, b2⟩ := smallB_t h1
    obtain ⟨b3, b4⟩ := inB_true h2
    obtain ⟨b5, b6⟩ := inB_true h3
    have hc : codeF p true = 0 := by simp [codeF, h1]
    have HC := Lib.hid hc
    have hv : ccV a b p = (car p.toNat a.toNat b.toNat 0 : Nat) := by simp [ccV, ccB, h1, h2, h3]
    have hw : ccC a b p = 0 := by simp [ccC, ccB, h2, h3, hc]
    have HV := Lib.hid hv
    have HW := Lib.hid hw
    clear hc hv hw
    obtain ⟨p, rfl⟩ := Int.eq_ofNat_of_zero_le (show 0 ≤ p by omega)
    obtain ⟨a, rfl⟩ := Int.eq_ofNat_of_zero_le b3
    obtain ⟨b, rfl⟩ := Int.eq_ofNat_of_zero_le b5
    have hp2 : 2 ≤ p := by omega
    have hcl := car_le hp2 (a + b) a b 0 (Nat.le_refl _) (by omega)
    go_enter Try.func37, Try.ntmps37
    go_wp2_with (first | (go_at_call 86; refine (i_isLarge _ _).mono ?_; rintro e w' ⟨rfl, nq, rfl⟩; first | rw [h2] | rw [h3]) | (go_at_call 85; refine (i_counted _ _ _).mono ?_; rintro e w' ⟨rfl, nq, rfl⟩; rw [HC.out]))
    go_loopw [0, 1, 9, 10] (fun u0 u1 u9 u10 wr => ∃ x y c k : Nat, x ≤ 1000000000000 ∧ y ≤ 1000000000000 ∧ c ≤ 1 ∧ k ≤ 2000000000000 ∧ Hid (k + car p x y c = car p a b 0) ∧ u0 = .int .i64 x ∧ u1 = .int .i64 y ∧ u10 = .int .i64 c ∧ u9 = .int .i64 k ∧ ∃ n, wr = w.drewN n) (fun u0 u1 _ u10 _ => 3 * ((intOf u0).toNat + (intOf u1).toNat) + (intOf u10).toNat)
    case atStart => exact ⟨a, b, 0, 0, by omega, by omega, by omega, by omega, hidP (by omega), rfl, rfl, rfl, rfl, dq1⟩
    case round =>
      obtain ⟨x, y, c, k, hx, hy, hc, hk, HG, rfl, rfl, rfl, rfl, n, rfl⟩ := hrel
      by_cases h0 : 0 < x + y
      · have e1 := half (a := x) hp2
        have e2 := half (a := y) hp2
        have e3 := carry_cases (a := x) (b := y) hp2 hc
        have hk' : k + (x % p + y % p + c) / p ≤ 2000000000000 := by
          have hg := HG.out
          rw [car_pos hp2 h0] at hg
          omega
        have m1 : 0 ≤ (x : Int) % p := Int.emod_nonneg _ (by omega)
        have m2 : (x : Int) % p < p := Int.emod_lt_of_pos _ (by omega)
        have m3 : 0 ≤ (y : Int) % p := Int.emod_nonneg _ (by omega)
        have m4 : (y : Int) % p < p := Int.emod_lt_of_pos _ (by omega)
        have n1 : (x : Int) % p = ((x % p : Nat) : Int) := by simp
        have n2 : (y : Int) % p = ((y % p : Nat) : Int) := by simp
        rcases e3 with ⟨q1, q2⟩ | ⟨q1, q2⟩
        · have q3 : (p : Int) ≤ (x : Int) % p + (y : Int) % p + c := by omega
          have HQ := Lib.hid q1
          rw [q1] at hk'
          clear q1 n1 n2 q2
          by_cases hx0 : 0 < x
          all_goals
            by_cases hy0 : 0 < y
            all_goals
              first
              | omega
              | (go_wp2_with (go_quiet (fail))
                 go_roundw
                 case rel => exact ⟨x / p, y / p, 1, k + 1, by omega, by omega, by omega, hk', hidP (by have hg := HG.out; rw [car_pos hp2 h0, HQ.out] at hg; omega), by simp, by simp, by simp, by simp, by first | exact dq1 | exact dq2 | exact dq3⟩
                 case measure => simp [intOf]; omega)
        · have q3 : (x : Int) % p + (y : Int) % p + c < (p : Int) := by omega
          have HQ := Lib.hid q1
          clear q1 n1 n2 q2
          by_cases hx0 : 0 < x
          all_goals
            by_cases hy0 : 0 < y
            all_goals
              first
              | omega
              | (go_wp2_with (go_quiet (fail))
                 go_roundw
                 case rel => exact ⟨x / p, y / p, 0, k, by omega, by omega, by omega, hk, hidP (by have hg := HG.out; rw [car_pos hp2 h0, HQ.out] at hg; omega), by simp, by simp, by simp, by simp, by first | exact dq1 | exact dq2 | exact dq3⟩
                 case measure => simp [intOf]; omega)
      · obtain rfl : x = 0 := by omega
        obtain rfl : y = 0 := by omega
        by_cases hc0 : 0 < c
        · obtain rfl : c = 1 := by omega
          go_wp2_with (go_quiet (fail))
          go_roundw
          case rel => exact ⟨0, 0, 0, k, by omega, by omega, by omega, hk, hidP (by have hg := HG.out; rw [car_zero] at hg ⊢; exact hg), by simp, by simp, by simp, by simp, by first | exact dq1 | exact dq2 | exact dq3⟩
          case measure => simp [intOf]
        · obtain rfl : c = 0 := by omega
          go_wp2_with (fail)
          go_ret2
          have hg := HG.out
          rw [car_zero] at hg
          refine ⟨ret_ii ?_ HW.out.symm, dq1⟩
          rw [HV.out]; simp; omega
  all_goals
    have hx : ccV a b p = 0 := by simp [ccV, ccB, h1, h2, h3]
    have hy : ccC a b p = codeF p (inB a 0 1000000000000 && inB b 0 1000000000000) := rfl
    simp only [h2, h3, codeF, h1] at hy
    simp at hy
    have HX := Lib.hid hx
    have HY := Lib.hid hy
    clear hx hy
    have hct : codeF p true = if smallB p then 0 else 1 := rfl
    have hcf : codeF p false = if smallB p then 2 else 1 := rfl
    simp only [h1] at hct hcf
    simp at hct hcf
    have HT := Lib.hid hct
    have HF := Lib.hid hcf
    clear hct hcf
    go_enter Try.func37, Try.ntmps37
    go_wp2_with (first | (go_at_call 86; refine (i_isLarge _ _).mono ?_; rintro e w' ⟨rfl, nq, rfl⟩; first | rw [h2] | rw [h3]) | (go_at_call 85; refine (i_counted _ _ _).mono ?_; rintro e w' ⟨rfl, nq, rfl⟩; first | rw [HT.out] | rw [HF.out]))
    go_ret2
    refine ⟨ret_ii HX.out.symm HY.out.symm, ?_⟩
    repeat (first | exact dq1 | exact dq2 | exact ⟨0, rfl⟩ | (simp only [World.drewN_drewN]; exact ⟨_, rfl⟩))
end Go.Proofs.Ythjoegoeaiemdaa

/- Contracts: primes, valuations of factorials, carries. -/
import Derived.Test.YtnagocbjhbaelaaA1
namespace Go.Proofs.Ytnagocbjhbaelaa
set_option linter.unusedVariables false
set_option linter.unusedSimpArgs false
open Go.RowKit

/-- n is prime, for numbers of at least 2. -/
def PrimeP (n : Int) : Prop := 2 ≤ n ∧ ∀ d : Int, 2 ≤ d → d * d ≤ n → n % d ≠ 0
noncomputable def primeB (n : Int) : Bool := @decide (PrimeP n) (Classical.propDecidable _)
theorem primeB_t {n : Int} (h : PrimeP n) : true = primeB n := by simp [primeB, h]
theorem primeB_f {n : Int} (h : ¬ PrimeP n) : false = primeB n := by simp [primeB, h]
theorem sq_ge {d e : Int} (h0 : 0 ≤ d) (h : d ≤ e) : d * d ≤ e * e := Int.mul_le_mul h h h0 (by omega)
theorem sq_1000 {d : Int} (h0 : 0 ≤ d) (h : d * d ≤ 1000000) : d ≤ 1000 := by
  rcases Int.lt_or_le 1000 d with h1 | h1
  · have := sq_ge (d := 1001) (by omega) (show (1001 : Int) ≤ d by omega)
    omega
  · exact h1
set_option maxHeartbeats 400000 in
theorem s_l01Prime (n : Int) (w : World) (hn : n ≤ 1000000) (hn0 : -9223372036854775808 ≤ n) : Calls Try.prog 85 #[.int .i64 n] w (Q (.bool (primeB n)) w) := by
  by_cases h2 : n < 2
  · go_enter Try.func85, Try.ntmps85
    go_wp2
    go_ret
    exact ⟨ret_bool (primeB_f (fun h => by have := h.1; omega)), 0, rfl⟩
  go_enter Try.func85, Try.ntmps85
  go_wp2
  go_loop [3] (fun u => ∃ d : Int, 2 ≤ d ∧ d ≤ 1001 ∧ Hid (∀ e : Int, 2 ≤ e → e < d → n % e ≠ 0) ∧ u = .int .i64 d) (fun u => (1001 - intOf u).toNat)
  case atStart => exact ⟨2, by omega, by omega, fun e h1 h2 => by omega, rfl⟩
  case round =>
    obtain ⟨d, hd, hd', HD, rfl⟩ := hrel
    have d0 : 4 ≤ d * d := sq_ge (d := 2) (by omega) hd
    have d1 : d * d ≤ 1002001 := sq_ge (by omega) hd'
    by_cases h1 : d * d ≤ n
    · have d2 := sq_1000 (by omega) (Int.le_trans h1 hn)
      by_cases h3 : n % d = 0
      · have h4 : (n % d == 0) = true := by simpa using h3
        have H3 := Lib.hid h3
        clear h3
        go_wp2
        go_ret
        exact ⟨ret_bool (primeB_f (fun h => h.2 d hd h1 H3.out)), 0, rfl⟩
      · have h4 : (n % d == 0) = false := by simpa using h3
        have H3 := Lib.hid h3
        clear h3
        go_wp2
        go_round
        case rel => exact ⟨d + 1, by omega, by omega, fun e he he' => by
          by_cases hx : e = d
          · rw [hx]; exact H3.out
          · exact HD.out e he (by omega), rfl⟩
        case measure => simp only [intOf]; omega
    · go_wp2
      go_ret
      refine ⟨ret_bool (primeB_t ⟨by omega, fun e he hee => HD.out e he ?_⟩), 0, rfl⟩
      rcases Int.lt_or_le e d with hx | hx
      · exact hx
      · have := sq_ge (by omega) hx
        omega
theorem hidP {p : Prop} (h : p) : Hid p := h
noncomputable def isPrimeB (n : Int) : Bool := inB n 2 1000000 && primeB n
set_option maxHeartbeats 400000 in
theorem i_IsPrime (n : Int) (w : World) : Calls Try.prog 84 #[.int .i64 n] w (Q (.bool (isPrimeB n)) w) := by
  cases h2 : inB n 2 1000000
  · go_enter Try.func84, Try.ntmps84
    go_wp2_with (first | (go_at_call 49; refine (i_within _ _ _ _).mono ?_; rintro e w' ⟨rfl, nq, rfl⟩))
    go_ret
    exact ⟨ret_bool (by simp [isPrimeB, h2]), dq1⟩
  have hb := inB_true h2
  obtain ⟨hb1, hn⟩ := hb
  go_enter Try.func84, Try.ntmps84
  go_wp2_with (first | (go_at_call 49; refine (i_within _ _ _ _).mono ?_; rintro e w' ⟨rfl, nq, rfl⟩))
  have H2 := Lib.hid h2
  clear h2
  go_loop [3] (fun u => ∃ d : Int, 2 ≤ d ∧ d ≤ 1001 ∧ Hid (∀ e : Int, 2 ≤ e → e < d → n % e ≠ 0) ∧ u = .int .i64 d) (fun u => (1001 - intOf u).toNat)
  case atStart => exact ⟨2, by omega, by omega, fun e h1 h2 => by omega, rfl⟩
  case round =>
    obtain ⟨d, hd, hd', HD, rfl⟩ := hrel
    have d0 : 4 ≤ d * d := sq_ge (d := 2) (by omega) hd
    have d1 : d * d ≤ 1002001 := sq_ge (by omega) hd'
    by_cases h1 : d * d ≤ n
    · have d2 := sq_1000 (by omega) (Int.le_trans h1 hn)
      by_cases h3 : n % d = 0
      · have h4 : (n % d == 0) = true := by simpa using h3
        have H3 := Lib.hid h3
        clear h3
        go_wp2
        go_ret
        exact ⟨ret_bool (by simp only [isPrimeB, H2.out, Bool.true_and]; exact primeB_f (fun h => h.2 d hd h1 H3.out)), dq1⟩
      · have h4 : (n % d == 0) = false := by simpa using h3
        have H3 := Lib.hid h3
        clear h3
        go_wp2
        go_round
        case rel => exact ⟨d + 1, by omega, by omega, fun e he he' => by
          by_cases hx : e = d
          · rw [hx]; exact H3.out
          · exact HD.out e he (by omega), rfl⟩
        case measure => simp only [intOf]; omega
    · go_wp2
      go_ret
      refine ⟨ret_bool ?_, dq1⟩
      simp only [isPrimeB, H2.out, Bool.true_and]
      refine primeB_t ⟨by omega, fun e he hee => HD.out e he ?_⟩
      rcases Int.lt_or_le e d with hx | hx
      · exact hx
      · have := sq_ge (by omega) hx
        omega
noncomputable def smallB (p : Int) : Bool := inB p 2 97 && primeB p
theorem smallB_t {p : Int} (h : smallB p = true) : 2 ≤ p ∧ p ≤ 97 := by
  simp [smallB] at h
  exact inB_true h.1
set_option maxHeartbeats 400000 in
theorem s_l01Small (p : Int) (w : World) (hp : -9223372036854775808 ≤ p) : Calls Try.prog 72 #[.int .i64 p] w (Q (.bool (smallB p)) w) := by
  cases h2 : inB p 2 97
  · go_enter Try.func72, Try.ntmps72
    go_wp2_with (first | (go_at_call 52; refine (s_l01In _ _ _ _).mono ?_; rintro e w' ⟨rfl, nq, rfl⟩))
    go_ret
    exact ⟨ret_bool (by simp [smallB, h2]), dq1⟩
  have hb := inB_true h2
  obtain ⟨hb1, hb2⟩ := hb
  go_enter Try.func72, Try.ntmps72
  go_wp2_with (first | (go_at_call 52; refine (s_l01In _ _ _ _).mono ?_; rintro e w' ⟨rfl, nq, rfl⟩) | (go_at_call 85; refine (s_l01Prime _ _ (by omega) hp).mono ?_; rintro e w' ⟨rfl, nq, rfl⟩))
  go_ret
  exact ⟨ret_bool (by simp [smallB, h2]), by first | exact dq1 | exact dq2⟩
set_option maxHeartbeats 400000 in
theorem i_isSmallPrime (p : Int) (w : World) : Calls Try.prog 71 #[.int .i64 p] w (Q (.bool (smallB p)) w) := by
  by_cases h2 : p ≤ 97
  · have hx : isPrimeB p = smallB p := by
      unfold isPrimeB smallB
      by_cases h3 : 2 ≤ p
      · rw [inB_mk h3 h2, inB_mk h3 (by omega)]
      · simp [inB, h3]
    go_enter Try.func71, Try.ntmps71
    go_wp2_with (first | (go_at_call 84; refine (i_IsPrime _ _).mono ?_; rintro e w' ⟨rfl, nq, rfl⟩))
    go_ret
    exact ⟨ret_bool (by simp [hx]), dq1⟩
  · go_enter Try.func71, Try.ntmps71
    go_wp2
    go_ret
    exact ⟨ret_bool (by simp [smallB, inB]; intros; omega), 0, rfl⟩

/-- The valuation of n! at p. -/
def leg (p n : Nat) : Nat := if h : 2 ≤ p ∧ 0 < n then n / p + leg p (n / p) else 0
termination_by n
decreasing_by exact Nat.div_lt_self h.2 h.1
theorem leg_pos {p n : Nat} (hp : 2 ≤ p) (hn : 0 < n) : leg p n = n / p + leg p (n / p) := by rw [leg, dif_pos ⟨hp, hn⟩]
theorem leg_zero (p : Nat) : leg p 0 = 0 := by rw [leg]; simp
theorem leg_le (p : Nat) (hp : 2 ≤ p) : ∀ m n : Nat, n ≤ m → leg p n ≤ n := by
  intro m
  induction m with
  | zero => intro n hn; obtain rfl : n = 0 := by omega
            rw [leg_zero]; omega
  | succ m ih =>
    intro n hn
    rcases Nat.eq_zero_or_pos n with h | h
    · subst h; rw [leg_zero]; omega
    · rw [leg_pos hp h]
      have h1 : n / p < n := Nat.div_lt_self h hp
      have h2 := ih (n / p) (by omega)
      have h3 : n / p ≤ n / 2 := Nat.div_le_div_left hp (by omega)
      omega
def legI (n p : Int) : Int := (leg p.toNat n.toNat : Nat)
theorem legI_bd {n p : Int} (hp : 2 ≤ p) (hn : 0 ≤ n) : 0 ≤ legI n p ∧ legI n p ≤ n := by
  have := leg_le p.toNat (by omega) n.toNat n.toNat (Nat.le_refl _)
  unfold legI
  omega
theorem div_bd (m p : Nat) (hp : 2 ≤ p) : 0 ≤ (m : Int) / (p : Int) ∧ (m : Int) / (p : Int) ≤ m := by
  exact ⟨Int.ediv_nonneg (by omega) (by omega), Int.ediv_le_self _ (by omega)⟩
set_option maxHeartbeats 400000 in
theorem s_l32Factorial (n p : Int) (w : World) (h0 : 0 ≤ n) (h1 : n ≤ 1000000000000) (hp : 2 ≤ p) (hp' : p ≤ 97) : Calls Try.prog 53 #[.int .i64 n, .int .i64 p] w (Q (.int .i64 (legI n p)) w) := by
  obtain ⟨n, rfl⟩ := Int.eq_ofNat_of_zero_le h0
  obtain ⟨p, rfl⟩ := Int.eq_ofNat_of_zero_le (show 0 ≤ p by omega)
  have hp2 : 2 ≤ p := by omega
  go_enter Try.func53, Try.ntmps53
  go_wp2
  go_loop [0, 5] (fun u v => ∃ m k : Nat, m ≤ 1000000000000 ∧ k ≤ 1000000000000 ∧ Hid (k + leg p m = leg p n) ∧ u = .int .i64 m ∧ v = .int .i64 k) (fun u _ => (intOf u).toNat)
  case atStart => exact ⟨n, 0, by omega, by omega, hidP (by omega), rfl, rfl⟩
  case round =>
    obtain ⟨m, k, hm, hk, HG, rfl, rfl⟩ := hrel
    have hd := div_bd m p hp2
    by_cases hm0 : 0 < m
    · have hk' : k + m / p ≤ 1000000000000 := by
        have := leg_le p hp2 n n (Nat.le_refl _)
        have hg := HG.out
        rw [leg_pos hp2 hm0] at hg
        omega
      have hlt : m / p < m := Nat.div_lt_self hm0 hp2
      go_wp2
      go_round
      case rel => exact ⟨m / p, k + m / p, by omega, by omega, hidP (by have hg := HG.out; rw [leg_pos hp2 hm0] at hg; omega), by simp, by simp⟩
      case measure => simp [intOf]; omega
    · obtain rfl : m = 0 := by omega
      go_wp2
      go_ret
      refine ⟨ret_int ?_, 0, rfl⟩
      have hg := HG.out
      rw [leg_zero] at hg
      simp [legI]; omega
set_option maxHeartbeats 400000 in
theorem i_factorialValuation (n p : Int) (w : World) (h0 : 0 ≤ n) (h1 : n ≤ 1000000000000) (hp : 2 ≤ p) (hp' : p ≤ 97) : Calls Try.prog 50 #[.int .i64 n, .int .i64 p] w (Q (.int .i64 (legI n p)) w) := by
  obtain ⟨n, rfl⟩ := Int.eq_ofNat_of_zero_le h0
  obtain ⟨p, rfl⟩ := Int.eq_ofNat_of_zero_le (show 0 ≤ p by omega)
  have hp2 : 2 ≤ p := by omega
  go_enter Try.func50, Try.ntmps50
  go_wp2
  go_loop [0, 5] (fun u v => ∃ m k : Nat, m ≤ 1000000000000 ∧ k ≤ 1000000000000 ∧ Hid (k + leg p m = leg p n) ∧ u = .int .i64 m ∧ v = .int .i64 k) (fun u _ => (intOf u).toNat)
  case atStart => exact ⟨n, 0, by omega, by omega, hidP (by omega), rfl, rfl⟩
  case round =>
    obtain ⟨m, k, hm, hk, HG, rfl, rfl⟩ := hrel
    have hd := div_bd m p hp2
    by_cases hm0 : 0 < m
    · have hk' : k + m / p ≤ 1000000000000 := by
        have := leg_le p hp2 n n (Nat.le_refl _)
        have hg := HG.out
        rw [leg_pos hp2 hm0] at hg
        omega
      have hlt : m / p < m := Nat.div_lt_self hm0 hp2
      go_wp2
      go_round
      case rel => exact ⟨m / p, k + m / p, by omega, by omega, hidP (by have hg := HG.out; rw [leg_pos hp2 hm0] at hg; omega), by simp, by simp⟩
      case measure => simp [intOf]; omega
    · obtain rfl : m = 0 := by omega
      go_wp2
      go_ret
      refine ⟨ret_int ?_, 0, rfl⟩
      have hg := HG.out
      rw [leg_zero] at hg
      simp [legI]; omega
noncomputable def codeF (p : Int) (b : Bool) : Int := if smallB p then (if b then 0 else 2) else 1
set_option maxHeartbeats 400000 in
theorem i_isLarge (n : Int) (w : World) : Calls Try.prog 48 #[.int .i64 n] w (Q (.bool (inB n 0 1000000000000)) w) := by
  go_enter Try.func48, Try.ntmps48
  go_wp2_with (first | (go_at_call 49; refine (i_within _ _ _ _).mono ?_; rintro e w' ⟨rfl, nq, rfl⟩))
  go_ret
  exact ⟨rfl, dq1⟩
set_option maxHeartbeats 400000 in
theorem i_counted (p : Int) (b : Bool) (w : World) : Calls Try.prog 47 #[.int .i64 p, .bool b] w (Q (.int .i64 (codeF p b)) w) := by
  cases h1 : smallB p <;> cases h2 : b
  all_goals
    go_enter Try.func47, Try.ntmps47
    go_wp2_with (first | (go_at_call 71; refine (i_isSmallPrime _ _).mono ?_; rintro e w' ⟨rfl, nq, rfl⟩))
    go_ret
    exact ⟨ret_int (by simp [codeF, h1]), dq1⟩
set_option maxHeartbeats 400000 in
theorem s_l32Code (p n : Int) (w : World) (hp : -9223372036854775808 ≤ p) : Calls Try.prog 51 #[.int .i64 p, .int .i64 n] w (Q (.int .i64 (codeF p (inB n 0 1000000000000))) w) := by
  cases h1 : smallB p <;> cases h2 : inB n 0 1000000000000
  all_goals
    go_enter Try.func51, Try.ntmps51
    go_wp2_with (first | (go_at_call 72; refine (s_l01Small _ _ hp).mono ?_; rintro e w' ⟨rfl, nq, rfl⟩) | (go_at_call 52; refine (s_l01In _ _ _ _).mono ?_; rintro e w' ⟨rfl, nq, rfl⟩))
    go_ret
    exact ⟨ret_int (by simp [codeF, h1, h2]), by first | exact dq1 | exact dq2⟩
end Go.Proofs.Ytnagocbjhbaelaa

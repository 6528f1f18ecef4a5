/- Contracts: impl.IsRing, moduli, Bezout, inverses. -/
import Derived.Test.YthjoegoeaiemdaaA40
namespace Go.Proofs.Ythjoegoeaiemdaa
set_option linter.unusedVariables false
set_option linter.unusedSimpArgs false
open Go.RowKit

theorem ringB_f1 {p n : Int} (h : smallB p = false) : ringB p n = false := by unfold ringB; rw [h]; rfl
theorem ringB_f2 {p n : Int} (h : n < 1) : ringB p n = false := by
  unfold ringB inB
  rw [decide_eq_false (show ¬ (1 ≤ n) by omega)]
  simp
theorem ringB_f3 {p n : Int} {i : Nat} (hp : 2 ≤ p) (hi : (i : Int) ≤ n) (h : 1000000000 < p.toNat ^ i) : ringB p n = false := by
  unfold ringB
  have h1 := Nat.pow_le_pow_right (show 0 < p.toNat by omega) (show i ≤ n.toNat by omega)
  rw [decide_eq_false (by omega)]
  simp
theorem ringB_t {p n : Int} {i : Nat} (hs : smallB p = true) (h1 : 1 ≤ n) (h2 : n ≤ 40 ∨ i = 40) (hi : (i : Int) = min n 40) (h : p.toNat ^ i ≤ 1000000000) : ringB p n = true := by
  have hp := smallB_t hs
  have h40 : n ≤ 40 := by
    rcases h2 with h2 | h2
    · exact h2
    · subst h2
      have e1 : 2 ^ 40 ≤ p.toNat ^ 40 := Nat.pow_le_pow_left (by omega) 40
      omega
  unfold ringB
  rw [hs, inB_mk h1 h40, decide_eq_true (by have : n.toNat = i := by omega
                                            rw [this]; exact h)]
  rfl
set_option maxHeartbeats 1000000 in
theorem i_IsRing (p n : Int) (w : World) (hp0 : -9223372036854775808 ≤ p) : Calls Try.prog 137 #[.agg #[.int .i64 p, .int .i64 n]] w (M (.bool (ringB p n)) w) := by
  cases h1 : smallB p
  · have HR := Lib.hid (ringB_f1 (n := n) h1)
    go_enter Try.func137, Try.ntmps137
    go_wp2_with (first | (go_at_call 112; refine (i_isSmallPrime _ _).mono ?_; rintro e w' ⟨rfl, nq, rfl⟩; rw [h1]))
    go_ret
    exact ⟨ret_bool HR.out.symm, below_drewN ((Below.refl _ _).alloc (Nat.le_refl _) _) _⟩
  by_cases hn : n < 1
  · have HR := Lib.hid (ringB_f2 (p := p) hn)
    go_enter Try.func137, Try.ntmps137
    go_wp2_with (first | (go_at_call 112; refine (i_isSmallPrime _ _).mono ?_; rintro e w' ⟨rfl, nq, rfl⟩; rw [h1]))
    go_ret
    exact ⟨ret_bool HR.out.symm, below_drewN ((Below.refl _ _).alloc (Nat.le_refl _) _) _⟩
  obtain ⟨p1, p2⟩ := smallB_t h1
  have hn1 : ¬ n < 1 := hn
  have hn2 : decide (n < 1) = false := decide_eq_false hn
  obtain ⟨p, rfl⟩ := Int.eq_ofNat_of_zero_le (show 0 ≤ p by omega)
  by_cases h40 : n ≤ 40
  · obtain ⟨K, rfl⟩ := Int.eq_ofNat_of_zero_le (show 0 ≤ n by omega)
    go_enter Try.func137, Try.ntmps137
    go_wp2_with (first | (go_at_call 112; refine (i_isSmallPrime _ _).mono ?_; rintro e w' ⟨rfl, nq, rfl⟩; rw [h1]))
    obtain ⟨wo, hwo⟩ : ∃ wo : World, wo = (w.alloc (.cells #[.int .i64 (p : Int), .int .i64 (K : Int)] 93)).drewN nq := ⟨_, rfl⟩
    have hB : BK wo w.heap.size 93 #[.int .i64 (p : Int), .int .i64 (K : Int)] := by rw [hwo]; exact BK.new w _ _
    have hb : Below w.heap.size w wo := by rw [hwo]; exact below_drewN ((Below.refl _ _).alloc (Nat.le_refl _) _) _
    rw [← hwo]
    obtain ⟨c0, c1, _, _⟩ := hB.two
    clear hwo hB
    go_loop [3, 16] (fun u3 u16 => ∃ i o : Nat, i ≤ K ∧ o ≤ 1000000000 ∧ u16 = .int .i64 i ∧ u3 = .int .i64 o ∧ Hid (o = p ^ i)) (fun _ u16 => K - (intOf u16).toNat)
    case atStart => exact ⟨0, 1, by omega, by omega, rfl, rfl, by simp [Hid]⟩
    case round =>
      obtain ⟨i, o, hi, ho, rfl, rfl, HO⟩ := hrel
      by_cases hlt : i < K
      · have hx : (o : Int) * (p : Int) = ((o * p : Nat) : Int) := by simp
        have hx0 : o * p ≤ 1000000000 * 97 := Nat.mul_le_mul ho (by omega)
        have hx1 : 0 ≤ (o : Int) * (p : Int) := by rw [hx]; omega
        have hx2 : (o : Int) * (p : Int) ≤ 97000000000 := by rw [hx]; omega
        have hpw : Hid (p ^ (i + 1) = o * p) := by unfold Hid; rw [Nat.pow_succ, HO.out]
        by_cases hbig : 1000000000 < o * p
        · have ht : 1000000000 < (o : Int) * (p : Int) := by rw [hx]; omega
          have HR : Hid (ringB (p : Int) (K : Int) = false) := ringB_f3 (i := i + 1) (by omega) (by omega) (by rw [Int.toNat_natCast, hpw.out]; exact hbig)
          clear hx
          go_wp2_with (fail)
          go_ret
          exact ⟨ret_bool HR.out.symm, hb⟩
        · have ht : (o : Int) * (p : Int) ≤ 1000000000 := by rw [hx]; omega
          clear hx
          go_wp2_with (fail)
          go_round
          case rel => exact ⟨i + 1, o * p, by omega, by omega, by go_num, by simp, hpw.out.symm⟩
          case measure => simp [intOf]; omega
      · have hiK : i = K := by omega
        have HR : Hid (ringB (p : Int) (K : Int) = true) := ringB_t (i := i) h1 (by omega) (by omega) (by omega) (by rw [Int.toNat_natCast, ← HO.out]; exact ho)
        clear hiK
        go_wp2_with (fail)
        go_ret
        exact ⟨ret_bool HR.out.symm, hb⟩
  · have h40' : 40 < n := by omega
    go_enter Try.func137, Try.ntmps137
    go_wp2_with (first | (go_at_call 112; refine (i_isSmallPrime _ _).mono ?_; rintro e w' ⟨rfl, nq, rfl⟩; rw [h1]))
    obtain ⟨wo, hwo⟩ : ∃ wo : World, wo = (w.alloc (.cells #[.int .i64 (p : Int), .int .i64 n] 93)).drewN nq := ⟨_, rfl⟩
    have hB : BK wo w.heap.size 93 #[.int .i64 (p : Int), .int .i64 n] := by rw [hwo]; exact BK.new w _ _
    have hb : Below w.heap.size w wo := by rw [hwo]; exact below_drewN ((Below.refl _ _).alloc (Nat.le_refl _) _) _
    rw [← hwo]
    obtain ⟨c0, c1, _, _⟩ := hB.two
    clear hwo hB
    go_loop [3, 16] (fun u3 u16 => ∃ i o : Nat, i ≤ 40 ∧ o ≤ 1000000000 ∧ u16 = .int .i64 i ∧ u3 = .int .i64 o ∧ Hid (o = p ^ i)) (fun _ u16 => 40 - (intOf u16).toNat)
    case atStart => exact ⟨0, 1, by omega, by omega, rfl, rfl, by simp [Hid]⟩
    case round =>
      obtain ⟨i, o, hi, ho, rfl, rfl, HO⟩ := hrel
      by_cases hlt : i < 40
      · have hx : (o : Int) * (p : Int) = ((o * p : Nat) : Int) := by simp
        have hx0 : o * p ≤ 1000000000 * 97 := Nat.mul_le_mul ho (by omega)
        have hx1 : 0 ≤ (o : Int) * (p : Int) := by rw [hx]; omega
        have hx2 : (o : Int) * (p : Int) ≤ 97000000000 := by rw [hx]; omega
        have hpw : Hid (p ^ (i + 1) = o * p) := by unfold Hid; rw [Nat.pow_succ, HO.out]
        by_cases hbig : 1000000000 < o * p
        · have ht : 1000000000 < (o : Int) * (p : Int) := by rw [hx]; omega
          have HR : Hid (ringB (p : Int) n = false) := ringB_f3 (i := i + 1) (by omega) (by omega) (by rw [Int.toNat_natCast, hpw.out]; exact hbig)
          clear hx
          go_wp2_with (fail)
          go_ret
          exact ⟨ret_bool HR.out.symm, hb⟩
        · have ht : (o : Int) * (p : Int) ≤ 1000000000 := by rw [hx]; omega
          clear hx
          go_wp2_with (fail)
          go_round
          case rel => exact ⟨i + 1, o * p, by omega, by omega, by go_num, by simp, hpw.out.symm⟩
          case measure => simp [intOf]; omega
      · have hiK : i = 40 := by omega
        have HR : Hid (ringB (p : Int) n = true) := ringB_t (i := i) h1 (by omega) (by omega) (by omega) (by rw [Int.toNat_natCast, ← HO.out]; exact ho)
        clear hiK
        go_wp2_with (fail)
        go_ret
        exact ⟨ret_bool HR.out.symm, hb⟩
end Go.Proofs.Ythjoegoeaiemdaa

/- Contracts: rings, remainders, Bezout. -/
import Derived.Test.YthjoegoeaiemdaaA30
namespace Go.Proofs.Ythjoegoeaiemdaa
set_option linter.unusedVariables false
set_option linter.unusedSimpArgs false
open Go.RowKit

theorem emod_bd (n : Int) {m : Int} (h : 0 < m) : 0 ≤ n % m ∧ n % m < m := ⟨Int.emod_nonneg _ (by omega), Int.emod_lt_of_pos _ h⟩
theorem mod_tmod (n m : Int) (hm : 0 < m) : (n.tmod m + m) % m = n % m := by
  rw [Int.add_emod_right]
  rw [Int.tmod_eq_emod]
  split
  · simp
  · have : (n % m - ↑m.natAbs) % m = n % m := by
      have e : (m.natAbs : Int) = m := by omega
      rw [e, Int.sub_emod_right, Int.emod_emod]
    exact this
theorem tmod_bd (n m : Int) (hm : 0 < m) : -m < n.tmod m ∧ n.tmod m < m := by
  have h := Int.natAbs_tmod n m
  have h2 : n.natAbs % m.natAbs < m.natAbs := Nat.mod_lt _ (by omega)
  omega
set_option maxHeartbeats 400000 in
theorem s_l01Mod (n m : Int) (w : World) (hm : 0 < m) (hm' : m ≤ 4611686018427387904) : Calls Try.prog 83 #[.int .i64 n, .int .i64 m] w (Q (.int .i64 (n % m)) w) := by
  obtain ⟨k1, k2⟩ := tmod_bd n m hm
  have k3 : 0 ≤ n.tmod m + m := by omega
  have k4 : n.tmod m + m ≤ 9223372036854775807 := by omega
  have HM := Lib.hid (mod_tmod n m hm)
  have HT : Hid ((n.tmod m + m).tmod m = n % m) := by unfold Hid; rw [Int.tmod_eq_emod_of_nonneg k3]; exact HM.out
  have hz : m ≠ 0 := by omega
  go_enter Try.func83, Try.ntmps83
  go_wp2_with (fail)
  go_ret
  exact ⟨ret_int (by first | exact HT.out | exact HM.out), 0, rfl⟩
set_option maxHeartbeats 400000 in
theorem i_mod (n m : Int) (w : World) (hm : 0 < m) (hm' : m ≤ 4611686018427387904) : Calls Try.prog 81 #[.int .i64 n, .int .i64 m] w (Q (.int .i64 (n % m)) w) := by
  obtain ⟨k1, k2⟩ := tmod_bd n m hm
  have k3 : 0 ≤ n.tmod m + m := by omega
  have k4 : n.tmod m + m ≤ 9223372036854775807 := by omega
  have HM := Lib.hid (mod_tmod n m hm)
  have HT : Hid ((n.tmod m + m).tmod m = n % m) := by unfold Hid; rw [Int.tmod_eq_emod_of_nonneg k3]; exact HM.out
  have hz : m ≠ 0 := by omega
  go_enter Try.func81, Try.ntmps81
  go_wp2_with (fail)
  go_ret
  exact ⟨ret_int (by first | exact HT.out | exact HM.out), 0, rfl⟩
/-- p to the power of n, or 0 if it is too great. -/
def md (p n : Nat) : Nat := if p ^ n ≤ 1000000000 then p ^ n else 0
theorem md_le (p n : Nat) : md p n ≤ 1000000000 := by unfold md; split <;> omega
theorem md_grow {p i n : Nat} (hp : 2 ≤ p) (hi : i ≤ n) (h : 1000000000 < p ^ i) : md p n = 0 := by
  have := Nat.pow_le_pow_right (show 0 < p by omega) hi
  unfold md; rw [if_neg (by omega)]
set_option maxHeartbeats 400000 in
theorem s_l02Modulus (p n : Nat) (w : World) (hp : 2 ≤ p) (hp' : p ≤ 97) (hn : n ≤ 1000000) : Calls Try.prog 84 #[.int .i64 p, .int .i64 n] w (Q (.int .i64 (md p n : Nat)) w) := by
  go_enter Try.func84, Try.ntmps84
  go_wp2_with (fail)
  go_loop [1, 5] (fun u1 u5 => ∃ i o : Nat, i ≤ n ∧ o ≤ 1000000000 ∧ u1 = .int .i64 ((n - i : Nat) : Int) ∧ u5 = .int .i64 o ∧ Hid (o = p ^ i)) (fun u1 _ => (intOf u1).toNat)
  case atStart => exact ⟨0, 1, by omega, by omega, rfl, rfl, by simp [Hid]⟩
  case round =>
    obtain ⟨i, o, hi, ho, rfl, rfl, HO⟩ := hrel
    obtain ⟨j, hj⟩ : ∃ j : Nat, j = n - i := ⟨_, rfl⟩
    rw [← hj]
    by_cases hlt : 0 < j
    · have hx : (o : Int) * (p : Int) = ((o * p : Nat) : Int) := by simp
      have hx0 : o * p ≤ 1000000000 * 97 := Nat.mul_le_mul ho hp'
      have hx1 : 0 ≤ (o : Int) * (p : Int) := by rw [hx]; omega
      have hx2 : (o : Int) * (p : Int) ≤ 97000000000 := by rw [hx]; omega
      have hpw : Hid (p ^ (i + 1) = o * p) := by unfold Hid; rw [Nat.pow_succ, HO.out]
      by_cases hbig : 1000000000 < o * p
      · have ht : 1000000000 < (o : Int) * (p : Int) := by rw [hx]; omega
        have HM : Hid (md p n = 0) := md_grow (i := i + 1) hp (by omega) (by rw [hpw.out]; exact hbig)
        clear hx
        go_wp2_with (fail)
        go_ret
        exact ⟨ret_int (by rw [HM.out]; rfl), 0, rfl⟩
      · have ht : (o : Int) * (p : Int) ≤ 1000000000 := by rw [hx]; omega
        clear hx
        go_wp2_with (fail)
        go_round
        case rel => exact ⟨i + 1, o * p, by omega, by omega, by congr 1; omega, by simp, hpw.out.symm⟩
        case measure => simp [intOf]; omega
    · obtain rfl : j = 0 := by omega
      obtain rfl : i = n := by omega
      have HM : Hid (md p i = o) := by unfold Hid md; rw [← HO.out, if_pos ho]
      have hj2 := Lib.hid hj
      clear hj hi hlt hn
      go_wp2_with (fail)
      go_ret
      exact ⟨ret_int (by rw [HM.out]), 0, rfl⟩
noncomputable def ringB (p n : Int) : Bool := smallB p && (inB n 1 40 && decide (p.toNat ^ n.toNat ≤ 1000000000))
theorem ringB_bd {p n : Int} (h : ringB p n = true) : 2 ≤ p ∧ p ≤ 97 ∧ 1 ≤ n ∧ n ≤ 40 ∧ p.toNat ^ n.toNat ≤ 1000000000 ∧ PrimeP p := by
  unfold ringB at h
  simp only [Bool.and_eq_true, decide_eq_true_eq] at h
  have h1 := smallB_t h.1
  have h2 := inB_true h.2.1
  exact ⟨h1.1, h1.2, h2.1, h2.2, h.2.2, smallB_prime h.1⟩
set_option maxHeartbeats 1000000 in
theorem s_IsRing (p n : Int) (w : World) (hp0 : -9223372036854775808 ≤ p) : Calls Try.prog 141 #[.agg #[.int .i64 p, .int .i64 n]] w (M (.bool (ringB p n)) w) := by
  cases h1 : smallB p
  · have HR : Hid (ringB p n = false) := by unfold Hid ringB; rw [h1]; rfl
    go_enter Try.func141, Try.ntmps141
    go_wp2_with (first | (go_at_call 110; refine (s_l01Small _ _ hp0).mono ?_; rintro e w' ⟨rfl, nq, rfl⟩; rw [h1]))
    go_ret
    exact ⟨ret_bool HR.out.symm, below_drewN ((Below.refl _ _).alloc (Nat.le_refl _) _) _⟩
  cases h2 : inB n 1 40
  · have HR : Hid (ringB p n = false) := by unfold Hid ringB; rw [h1, h2]; rfl
    go_enter Try.func141, Try.ntmps141
    go_wp2_with (first | (go_at_call 110; refine (s_l01Small _ _ hp0).mono ?_; rintro e w' ⟨rfl, nq, rfl⟩; rw [h1]) | (go_at_call 90; refine (s_l01In _ _ _ _).mono ?_; rintro e w' ⟨rfl, nq, rfl⟩; rw [h2]))
    go_ret
    refine ⟨ret_bool HR.out.symm, ?_⟩
    repeat (first | exact (Below.refl _ _).alloc (Nat.le_refl _) _ | refine below_drewN ?_ _)
  obtain ⟨p1, p2⟩ := smallB_t h1
  obtain ⟨n1, n2⟩ := inB_true h2
  obtain ⟨p, rfl⟩ := Int.eq_ofNat_of_zero_le (show 0 ≤ p by omega)
  obtain ⟨n, rfl⟩ := Int.eq_ofNat_of_zero_le (show 0 ≤ n by omega)
  have hpos : 0 < p ^ n := Nat.pow_pos (by omega)
  have hR : ringB (p : Int) (n : Int) = decide (p ^ n ≤ 1000000000) := by unfold ringB; rw [h1, h2, Int.toNat_natCast, Int.toNat_natCast]; simp
  have HM : Hid (decide (0 < ((md p n : Nat) : Int)) = ringB (p : Int) (n : Int)) := by
    unfold Hid; rw [hR, Bool.eq_iff_iff, decide_eq_true_eq, decide_eq_true_eq]; unfold md; split <;> omega
  generalize hR2 : ringB (p : Int) (n : Int) = R at HM
  have hmle := md_le p n
  generalize hmm : md p n = mm at *
  have HMM := Lib.hid hmm
  have HR2 := Lib.hid hR2
  clear hR hR2 hmm hpos
  by_cases h3 : 0 < mm
  all_goals
    go_enter Try.func141, Try.ntmps141
    go_wp2_with (first | (go_at_call 110; refine (s_l01Small _ _ hp0).mono ?_; rintro e w' ⟨rfl, nq, rfl⟩; rw [h1]) | (go_at_call 90; refine (s_l01In _ _ _ _).mono ?_; rintro e w' ⟨rfl, nq, rfl⟩; rw [h2]) | (go_at_call 84; refine (s_l02Modulus p n _ (by omega) (by omega) (by omega)).mono ?_; rw [HMM.out]; rintro e w' ⟨rfl, nq, rfl⟩))
    go_ret
    refine ⟨ret_bool (by rw [← HM.out]; simp; try omega), ?_⟩
    repeat (first | exact (Below.refl _ _).alloc (Nat.le_refl _) _ | refine below_drewN ?_ _)
end Go.Proofs.Ythjoegoeaiemdaa

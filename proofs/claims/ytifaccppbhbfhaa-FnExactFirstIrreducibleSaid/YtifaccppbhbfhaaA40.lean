/- Contracts: rings, remainders, Bezout. -/
import Derived.Test.YtifaccppbhbfhaaA30
namespace Go.Proofs.Ytifaccppbhbfhaa
set_option linter.unusedVariables false
set_option linter.unusedSimpArgs false
open Go.RowKit

theorem emod_bd (n : Int) {m : Int} (h : 0 < m) : 0 ≤ n % m ∧ n % m < m := ⟨Int.emod_nonneg _ (by omega), Int.emod_lt_of_pos _ h⟩
theorem mod_tmod (n m : Int) (hm : 0 < m) : (n.tmod m + m) % m = n % m := by
  rw [Int.add_emod_right]
  rw [Int.tmod_eq_emod]
  split
  · simp
  · have : (n % m - ↑m.natAbs) % m = n % m := by
      have e : (m.natAbs : Int) = m := by omega
      rw [e, Int.sub_emod_right, Int.emod_emod]
    exact this
theorem tmod_bd (n m : Int) (hm : 0 < m) : -m < n.tmod m ∧ n.tmod m < m := by
  have h := Int.natAbs_tmod n m
  have h2 : n.natAbs % m.natAbs < m.natAbs := Nat.mod_lt _ (by omega)
  omega
set_option maxHeartbeats 400000 in
theorem s_l01Mod (n m : Int) (w : World) (hm : 0 < m) (hm' : m ≤ 4611686018427387904) : Calls Try.prog 36 #[.int .i64 n, .int .i64 m] w (Q (.int .i64 (n % m)) w) := by
  obtain ⟨k1, k2⟩ := tmod_bd n m hm
  have k3 : 0 ≤ n.tmod m + m := by omega
  have k4 : n.tmod m + m ≤ 9223372036854775807 := by omega
  have HM := Lib.hid (mod_tmod n m hm)
  have HT : Hid ((n.tmod m + m).tmod m = n % m) := by unfold Hid; rw [Int.tmod_eq_emod_of_nonneg k3]; exact HM.out
  have hz : m ≠ 0 := by omega
  go_enter Try.func36, Try.ntmps36
  go_wp2_with (fail)
  go_ret
  exact ⟨ret_int (by first | exact HT.out | exact HM.out), 0, rfl⟩
set_option maxHeartbeats 400000 in
theorem i_mod (n m : Int) (w : World) (hm : 0 < m) (hm' : m ≤ 4611686018427387904) : Calls Try.prog 42 #[.int .i64 n, .int .i64 m] w (Q (.int .i64 (n % m)) w) := by
  obtain ⟨k1, k2⟩ := tmod_bd n m hm
  have k3 : 0 ≤ n.tmod m + m := by omega
  have k4 : n.tmod m + m ≤ 9223372036854775807 := by omega
  have HM := Lib.hid (mod_tmod n m hm)
  have HT : Hid ((n.tmod m + m).tmod m = n % m) := by unfold Hid; rw [Int.tmod_eq_emod_of_nonneg k3]; exact HM.out
  have hz : m ≠ 0 := by omega
  go_enter Try.func42, Try.ntmps42
  go_wp2_with (fail)
  go_ret
  exact ⟨ret_int (by first | exact HT.out | exact HM.out), 0, rfl⟩
/-- p to the power of n, or 0 if it is too great. -/
def md (p n : Nat) : Nat := if p ^ n ≤ 1000000000 then p ^ n else 0
theorem md_le (p n : Nat) : md p n ≤ 1000000000 := by unfold md; split <;> omega
theorem md_grow {p i n : Nat} (hp : 2 ≤ p) (hi : i ≤ n) (h : 1000000000 < p ^ i) : md p n = 0 := by
  have := Nat.pow_le_pow_right (show 0 < p by omega) hi
  unfold md; rw [if_neg (by omega)]
noncomputable def ringB (p n : Int) : Bool := smallB p && (inB n 1 40 && decide (p.toNat ^ n.toNat ≤ 1000000000))
theorem ringB_bd {p n : Int} (h : ringB p n = true) : 2 ≤ p ∧ p ≤ 97 ∧ 1 ≤ n ∧ n ≤ 40 ∧ p.toNat ^ n.toNat ≤ 1000000000 ∧ PrimeP p := by
  unfold ringB at h
  simp only [Bool.and_eq_true, decide_eq_true_eq] at h
  have h1 := smallB_t h.1
  have h2 := inB_true h.2.1
  exact ⟨h1.1, h1.2, h2.1, h2.2, h.2.2, smallB_prime h.1⟩
end Go.Proofs.Ytifaccppbhbfhaa

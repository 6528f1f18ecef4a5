/- Plain laws for FnAbsolutes: closeness is symmetric; absolute values and valuations. -/
import Derived.Test.YthjoegoeaiemdaaA59
import Derived.Test.YthjoegoeaiemdaaA31
namespace Go.Proofs.Ythjoegoeaiemdaa
set_option linter.unusedVariables false
set_option linter.unusedSimpArgs false
open Go.RowKit

theorem po_one {a b : Int} (h : rcode a b = 0) : (pN a b = 1 ∧ pD a b = 1) ↔ suC a b = 0 := by
  unfold pN pD suC
  rw [if_pos h, if_pos h, if_pos h]
  constructor
  · rintro ⟨h1, h2⟩
    rw [if_pos ⟨by omega, by omega⟩]
  · intro h1
    by_cases h2 : stp 98 a.natAbs = 1 ∧ stp 98 b.natAbs = 1
    · exact ⟨by omega, by omega⟩
    · rw [if_neg h2] at h1
      omega
theorem sm4_sym (a b c d : Int) : sm4 c d a b = sm4 a b c d := by
  unfold sm4
  cases inB a (-1000000) 1000000 <;> cases inB b (-1000000) 1000000 <;> cases inB c (-1000000) 1000000 <;> cases inB d (-1000000) 1000000 <;> rfl
theorem cl_sym (a b c d p : Int) : clC c d a b p = clC a b c d p ∧ clV c d a b p = clV a b c d p := by
  have h1 : clC c d a b p = clC a b c d p := by
    unfold clC clOk twoC
    rw [sm4_sym, show decide (c = a) = decide (a = c) from decide_eq_decide.2 eq_comm, show decide (d = b) = decide (b = d) from decide_eq_decide.2 eq_comm]
    cases ratB a b <;> cases ratB c d <;> cases smallB p <;> rfl
  refine ⟨h1, ?_⟩
  unfold clV
  rw [h1]
  split
  · have e : (c * b - a * d).natAbs = (a * d - c * b).natAbs := by omega
    rw [e]
    omega
  · rfl
theorem ab_val {a b p : Int} (h : vcode a b p = 0) : (0 < vV a b p ↔ 1 < aD a b p) ∧ (vV a b p < 0 ↔ 1 < aN a b p) := by
  obtain ⟨hp, hr, ha⟩ := vcode_0 h
  have hpp := smallB_prime hp
  have hp2 := hpp.1
  obtain ⟨_, _, hb, _, hg⟩ := ratB_bd hr
  unfold vV aD aN
  rw [if_pos h, if_pos h, if_pos h]
  have hx : ∀ k : Nat, 1 < ((p.toNat ^ k : Nat) : Int) ↔ 0 < k := fun k => by
    constructor
    · intro h1
      rcases Nat.eq_zero_or_pos k with rfl | h2
      · simp at h1
      · exact h2
    · intro h1
      have : p.toNat ^ 1 ≤ p.toNat ^ k := Nat.pow_le_pow_right (by omega) h1
      rw [Nat.pow_one] at this
      omega
  rw [hx, hx]
  have hn : ¬ (0 < val p.toNat a.natAbs ∧ 0 < val p.toNat b.natAbs) := fun ⟨h1, h2⟩ => by
    have d1 := val_pos_dvd h1
    have d2 := val_pos_dvd h2
    have d3 := Nat.dvd_gcd d1 d2
    have : Nat.gcd a.natAbs b.natAbs = 1 := hg
    rw [this] at d3
    have := Nat.le_of_dvd (by omega) d3
    omega
  omega
end Go.Proofs.Ythjoegoeaiemdaa

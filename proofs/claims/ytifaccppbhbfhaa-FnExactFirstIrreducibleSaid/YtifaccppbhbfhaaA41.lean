/- Contracts: impl.IsRing, moduli, Bezout, inverses. -/
import Derived.Test.YtifaccppbhbfhaaA40
namespace Go.Proofs.Ytifaccppbhbfhaa
set_option linter.unusedVariables false
set_option linter.unusedSimpArgs false
open Go.RowKit

theorem ringB_f1 {p n : Int} (h : smallB p = false) : ringB p n = false := by unfold ringB; rw [h]; rfl
theorem ringB_f2 {p n : Int} (h : n < 1) : ringB p n = false := by
  unfold ringB inB
  rw [decide_eq_false (show ¬ (1 ≤ n) by omega)]
  simp
theorem ringB_f3 {p n : Int} {i : Nat} (hp : 2 ≤ p) (hi : (i : Int) ≤ n) (h : 1000000000 < p.toNat ^ i) : ringB p n = false := by
  unfold ringB
  have h1 := Nat.pow_le_pow_right (show 0 < p.toNat by omega) (show i ≤ n.toNat by omega)
  rw [decide_eq_false (by omega)]
  simp
theorem ringB_t {p n : Int} {i : Nat} (hs : smallB p = true) (h1 : 1 ≤ n) (h2 : n ≤ 40 ∨ i = 40) (hi : (i : Int) = min n 40) (h : p.toNat ^ i ≤ 1000000000) : ringB p n = true := by
  have hp := smallB_t hs
  have h40 : n ≤ 40 := by
    rcases h2 with h2 | h2
    · exact h2
    · subst h2
      have e1 : 2 ^ 40 ≤ p.toNat ^ 40 := Nat.pow_le_pow_left (by omega) 40
      omega
  unfold ringB
  rw [hs, inB_mk h1 h40, decide_eq_true (by have : n.toNat = i := by omega
                                            rw [this]; exact h)]
  rfl
end Go.Proofs.Ytifaccppbhbfhaa

/- Contracts and walks: AbsoluteAt. -/
import Derived.Test.YtcbjfdeigpdbdaaA22
namespace Go.Proofs.Ytcbjfdeigpdbdaa
set_option linter.unusedVariables false
set_option linter.unusedSimpArgs false
open Go.RowKit

noncomputable def rcode (a b : Int) : Int := if ratB a b then (if a = 0 then 5 else 0) else 1
theorem ratB_bd {a b : Int} (h : ratB a b = true) : -1000000000000 ≤ a ∧ a ≤ 1000000000000 ∧ 1 ≤ b ∧ b ≤ 1000000000000 ∧ Int.gcd a b = 1 := by
  unfold ratB at h
  simp only [Bool.and_eq_true, beq_iff_eq] at h
  have h1 := valB_true h.1
  have h2 := inB_true h.2.1
  have h3 := h.2.2
  omega
noncomputable def vcode (a b p : Int) : Int := if smallB p then rcode a b else 1
noncomputable def vV (a b p : Int) : Int := if vcode a b p = 0 then (val p.toNat a.natAbs : Int) - (val p.toNat b.natAbs : Int) else 0
theorem vcode_0 {a b p : Int} (h : vcode a b p = 0) : smallB p = true ∧ ratB a b = true ∧ a ≠ 0 := by
  unfold vcode rcode at h
  cases h1 : smallB p <;> cases h2 : ratB a b <;> rw [h1, h2] at h <;> simp at h
  exact ⟨rfl, rfl, h⟩
theorem val_le40 {p n : Nat} (hp : 2 ≤ p) (h0 : 0 < n) (hn : n ≤ 1000000000000) : val p n ≤ 40 := by
  rcases Nat.lt_or_ge 40 (val p n) with h | h
  · have h1 := pow_val_le hp h0
    have h2 : 2 ^ 41 ≤ 2 ^ val p n := Nat.pow_le_pow_right (by omega) h
    have h3 : 2 ^ val p n ≤ p ^ val p n := Nat.pow_le_pow_left hp _
    omega
  · exact h
end Go.Proofs.Ytcbjfdeigpdbdaa

/- Contracts: primes, valuations of factorials, carries. -/
import Derived.Test.YtcbjfdeigpdbdaaA1
namespace Go.Proofs.Ytcbjfdeigpdbdaa
set_option linter.unusedVariables false
set_option linter.unusedSimpArgs false
open Go.RowKit

/-- n is prime, for numbers of at least 2. -/
def PrimeP (n : Int) : Prop := 2 ≤ n ∧ ∀ d : Int, 2 ≤ d → d * d ≤ n → n % d ≠ 0
noncomputable def primeB (n : Int) : Bool := @decide (PrimeP n) (Classical.propDecidable _)
theorem primeB_t {n : Int} (h : PrimeP n) : true = primeB n := by simp [primeB, h]
theorem primeB_f {n : Int} (h : ¬ PrimeP n) : false = primeB n := by simp [primeB, h]
theorem sq_ge {d e : Int} (h0 : 0 ≤ d) (h : d ≤ e) : d * d ≤ e * e := Int.mul_le_mul h h h0 (by omega)
theorem sq_1000 {d : Int} (h0 : 0 ≤ d) (h : d * d ≤ 1000000) : d ≤ 1000 := by
  rcases Int.lt_or_le 1000 d with h1 | h1
  · have := sq_ge (d := 1001) (by omega) (show (1001 : Int) ≤ d by omega)
    omega
  · exact h1
theorem hidP {p : Prop} (h : p) : Hid p := h
noncomputable def isPrimeB (n : Int) : Bool := inB n 2 1000000 && primeB n
noncomputable def smallB (p : Int) : Bool := inB p 2 97 && primeB p
theorem smallB_t {p : Int} (h : smallB p = true) : 2 ≤ p ∧ p ≤ 97 := by
  simp [smallB] at h
  exact inB_true h.1
/-- The valuation of n! at p. -/
def leg (p n : Nat) : Nat := if h : 2 ≤ p ∧ 0 < n then n / p + leg p (n / p) else 0
termination_by n
decreasing_by exact Nat.div_lt_self h.2 h.1
theorem leg_pos {p n : Nat} (hp : 2 ≤ p) (hn : 0 < n) : leg p n = n / p + leg p (n / p) := by rw [leg, dif_pos ⟨hp, hn⟩]
theorem leg_zero (p : Nat) : leg p 0 = 0 := by rw [leg]; simp
theorem leg_le (p : Nat) (hp : 2 ≤ p) : ∀ m n : Nat, n ≤ m → leg p n ≤ n := by
  intro m
  induction m with
  | zero => intro n hn; obtain rfl : n = 0 := by omega
            rw [leg_zero]; omega
  | succ m ih =>
    intro n hn
    rcases Nat.eq_zero_or_pos n with h | h
    · subst h; rw [leg_zero]; omega
    · rw [leg_pos hp h]
      have h1 : n / p < n := Nat.div_lt_self h hp
      have h2 := ih (n / p) (by omega)
      have h3 : n / p ≤ n / 2 := Nat.div_le_div_left hp (by omega)
      omega
def legI (n p : Int) : Int := (leg p.toNat n.toNat : Nat)
theorem legI_bd {n p : Int} (hp : 2 ≤ p) (hn : 0 ≤ n) : 0 ≤ legI n p ∧ legI n p ≤ n := by
  have := leg_le p.toNat (by omega) n.toNat n.toNat (Nat.le_refl _)
  unfold legI
  omega
theorem div_bd (m p : Nat) (hp : 2 ≤ p) : 0 ≤ (m : Int) / (p : Int) ∧ (m : Int) / (p : Int) ≤ m := by
  exact ⟨Int.ediv_nonneg (by omega) (by omega), Int.ediv_le_self _ (by omega)⟩
noncomputable def codeF (p : Int) (b : Bool) : Int := if smallB p then (if b then 0 else 2) else 1
end Go.Proofs.Ytcbjfdeigpdbdaa

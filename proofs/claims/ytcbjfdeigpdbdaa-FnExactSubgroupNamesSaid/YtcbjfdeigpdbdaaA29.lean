/- Plain laws: a prime divides a factor; the valuation of a product. -/
import Derived.Test.YtcbjfdeigpdbdaaA22
namespace Go.Proofs.Ytcbjfdeigpdbdaa
set_option linter.unusedVariables false
set_option linter.unusedSimpArgs false
open Go.RowKit

theorem prime_div {p d : Nat} (hp : PrimeP (p : Int)) (h : d ∣ p) : d = 1 ∨ d = p := by
  have hp2 := hp.1
  have hpos : 0 < p := by omega
  obtain ⟨e, he⟩ := h
  have hd : d ≠ 0 := by rintro rfl; simp at he; omega
  have hee : e ≠ 0 := by rintro rfl; simp at he; omega
  by_cases h1 : d = 1
  · exact .inl h1
  by_cases h2 : e = 1
  · subst h2; right; omega
  exfalso
  have hno : ∀ c : Nat, 2 ≤ c → c * c ≤ p → p % c = 0 → False := by
    intro c hc hcc hm
    refine hp.2 (c : Int) (by omega) ?_ ?_
    · have : ((c * c : Nat) : Int) ≤ (p : Int) := by omega
      rwa [Int.natCast_mul] at this
    · rw [← Int.natCast_emod, hm]; rfl
  rcases Nat.le_total d e with h3 | h3
  · refine hno d (by omega) ?_ (by rw [he]; exact Nat.mul_mod_right _ _)
    rw [he]; exact Nat.mul_le_mul_left _ h3
  · refine hno e (by omega) ?_ (by rw [he]; exact Nat.mul_mod_left _ _)
    rw [he]; exact Nat.mul_le_mul_right _ h3
theorem prime_mul {p x y : Nat} (hp : PrimeP (p : Int)) (h : p ∣ x * y) : p ∣ x ∨ p ∣ y := by
  rcases prime_div hp (Nat.gcd_dvd_left p x) with h1 | h1
  · exact .inr (Nat.Coprime.dvd_of_dvd_mul_left (show Nat.Coprime p x from h1) h)
  · left; rw [← h1]; exact Nat.gcd_dvd_right p x
theorem val_pow {p r : Nat} (hp : 2 ≤ p) (h : r % p ≠ 0) : ∀ k : Nat, val p (p ^ k * r) = k := by
  intro k
  have hr : 0 < r := by
    rcases Nat.eq_zero_or_pos r with h0 | h0
    · subst h0; simp at h
    · exact h0
  induction k with
  | zero => rw [Nat.pow_zero, Nat.one_mul]; exact (val_no h).1
  | succ k ih =>
    have e : p ^ (k + 1) * r = (p ^ k * r) * p := by rw [Nat.pow_succ]; rw [Nat.mul_right_comm]
    have hpos : 0 < p ^ k * r := Nat.mul_pos (Nat.pow_pos (by omega)) hr
    rw [e, (val_yes hp (Nat.mul_pos hpos (by omega)) (Nat.mul_mod_left _ _)).1, Nat.mul_div_cancel _ (by omega), ih]
theorem val_prod {p x y : Nat} (hp : PrimeP (p : Int)) (hx : 0 < x) (hy : 0 < y) : val p (x * y) = val p x + val p y := by
  have hp2 : 2 ≤ p := by have := hp.1; omega
  have e1 := val_mul hp2 x x (Nat.le_refl _) hx
  have e2 := val_mul hp2 y y (Nat.le_refl _) hy
  have b1 := (val_bd hp2 hx).2.2
  have b2 := (val_bd hp2 hy).2.2
  have e3 : x * y = p ^ (val p x + val p y) * (rst p x * rst p y) := by
    conv => lhs; rw [e1, e2]
    rw [Nat.pow_add]
    simp only [Nat.mul_assoc, Nat.mul_left_comm]
  rw [e3]
  refine val_pow hp2 (fun h => ?_) _
  rcases prime_mul hp (Nat.dvd_of_mod_eq_zero h) with h1 | h1
  · exact b1 (Nat.mod_eq_zero_of_dvd h1)
  · exact b2 (Nat.mod_eq_zero_of_dvd h1)
theorem primeB_p {n : Int} (h : primeB n = true) : PrimeP n := by simpa [primeB] using h
theorem smallB_prime {p : Int} (h : smallB p = true) : PrimeP p := by
  simp [smallB] at h
  exact primeB_p h.2
end Go.Proofs.Ytcbjfdeigpdbdaa

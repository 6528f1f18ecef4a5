/- Plain laws: systems of residues and their solutions. -/
import Derived.Test.YthjoegoeaiemdaaA50
namespace Go.Proofs.Ythjoegoeaiemdaa
set_option linter.unusedVariables false
set_option linter.unusedSimpArgs false
open Go.RowKit

/-- The number of Bezout is an inverse. -/
theorem bzx_dvd (a m : Nat) : ∀ N r s : Nat, s ≤ N → ∀ x u : Int, (m : Int) ∣ x * a - r → (m : Int) ∣ u * a - s → (m : Int) ∣ bzx r s x u * a - (Nat.gcd r s : Nat) := by
  intro N
  induction N with
  | zero =>
    intro r s hs x u h1 h2
    obtain rfl : s = 0 := by omega
    rw [bzx_0, Nat.gcd_zero_right]; exact h1
  | succ N ih =>
    intro r s hs x u h1 h2
    by_cases h0 : s = 0
    · subst h0; rw [bzx_0, Nat.gcd_zero_right]; exact h1
    · rw [bzx_s _ _ h0, Nat.gcd_comm r s, Nat.gcd_rec s r, Nat.gcd_comm]
      have hm := Nat.mod_lt r (show 0 < s by omega)
      refine ih s (r % s) (by omega) u _ h2 ?_
      have e : (x - ((r / s : Nat) : Int) * u) * a - ((r % s : Nat) : Int) = (x * a - r) - ((r / s : Nat) : Int) * (u * a - s) := by
        have h3 := sub_div_mul r s
        rw [← h3, Int.natCast_ediv, Int.sub_mul, Int.mul_sub, Int.mul_assoc]
        omega
      rw [e]
      exact Int.dvd_sub h1 (Int.dvd_mul_of_dvd_right h2)
theorem invM_dvd (a m : Nat) (hg : Nat.gcd a m = 1) : (m : Int) ∣ invM a m * a - 1 := by
  have h := bzx_dvd a m m a m (Nat.le_refl _) 1 0 (by simp) (by simp [Int.dvd_neg])
  rw [hg] at h
  unfold invM
  have h2 : (m : Int) ∣ bzx a m 1 0 - bzx a m 1 0 % (m : Int) := Int.dvd_self_sub_emod
  have e : bzx a m 1 0 % (m : Int) * a - 1 = (bzx a m 1 0 * a - 1) - (bzx a m 1 0 - bzx a m 1 0 % (m : Int)) * a := by
    rw [Int.sub_mul]; omega
  rw [e]
  exact Int.dvd_sub h (Int.dvd_mul_of_dvd_left h2)
/-- The modulus of a ring of the list. -/
def mo (l : List Z3) (k : Nat) : Nat := (g3 l k).1.toNat ^ (g3 l k).2.1.toNat
def pr (l : List Z3) : Nat → Nat
  | 0 => 1
  | k + 1 => pr l k * mo l k
def SysTo (l : List Z3) (k : Nat) : Prop := ∀ i, i < k → ringB (g3 l i).1 (g3 l i).2.1 = true ∧ inB (g3 l i).2.2 0 ((mo l i : Int) - 1) = true ∧ (∀ j, j < i → (g3 l j).1 ≠ (g3 l i).1) ∧ pr l (i + 1) ≤ 1000000000000
def SysP (l : List Z3) : Prop := SysTo l l.length ∧ l.length ≤ 8
noncomputable def sysB (l : List Z3) : Bool := @decide (SysP l) (Classical.propDecidable _)
theorem sysB_t {l : List Z3} (h : SysP l) : sysB l = true := by simp [sysB, h]
theorem sysB_f {l : List Z3} (h : ¬ SysP l) : sysB l = false := by simp [sysB, h]
theorem sysB_p {l : List Z3} (h : sysB l = true) : SysP l := by simpa [sysB] using h
theorem SysTo.less {l : List Z3} {k m : Nat} (h : SysTo l k) (hm : m ≤ k) : SysTo l m := fun i hi => h i (by omega)
theorem mo_bd {l : List Z3} {k : Nat} (h : ringB (g3 l k).1 (g3 l k).2.1 = true) : 2 ≤ mo l k ∧ mo l k ≤ 1000000000 := by
  obtain ⟨h1, h2, h3, h4, h5, _⟩ := ringB_bd h
  refine ⟨?_, h5⟩
  unfold mo
  have e1 : (g3 l k).1.toNat ^ 1 ≤ (g3 l k).1.toNat ^ (g3 l k).2.1.toNat := Nat.pow_le_pow_right (by omega) (by omega)
  rw [Nat.pow_one] at e1
  omega
theorem pr_pos {l : List Z3} : ∀ k, SysTo l k → 1 ≤ pr l k := by
  intro k
  induction k with
  | zero => intro _; exact Nat.le_refl _
  | succ k ih =>
    intro h
    have h1 := ih (h.less (by omega))
    have h2 := (mo_bd (h k (by omega)).1).1
    show 1 ≤ pr l k * mo l k
    exact Nat.mul_pos (by omega) (by omega)
theorem pr_le {l : List Z3} {k : Nat} (h : SysTo l k) : pr l k ≤ 1000000000000 := by
  cases k with
  | zero => show 1 ≤ _; omega
  | succ k => exact (h k (by omega)).2.2.2
theorem pr_pow {l : List Z3} : ∀ k, SysTo l k → 2 ^ k ≤ pr l k := by
  intro k
  induction k with
  | zero => intro _; exact Nat.le_refl _
  | succ k ih =>
    intro h
    have h1 := ih (h.less (by omega))
    have h2 := (mo_bd (h k (by omega)).1).1
    show 2 ^ (k + 1) ≤ pr l k * mo l k
    rw [Nat.pow_succ]
    exact Nat.mul_le_mul h1 h2
theorem primes_coprime {p q : Nat} (hp : PrimeP (p : Int)) (hq : PrimeP (q : Int)) (h : p ≠ q) : Nat.Coprime p q := by
  rcases prime_div hp (Nat.gcd_dvd_left p q) with h1 | h1
  · exact h1
  · have h2 : p ∣ q := by rw [← h1]; exact Nat.gcd_dvd_right p q
    have := hp.1
    rcases prime_div hq h2 with h3 | h3
    · omega
    · exact absurd h3 h
theorem mo_coprime {l : List Z3} {i k : Nat} (hi : ringB (g3 l i).1 (g3 l i).2.1 = true) (hk : ringB (g3 l k).1 (g3 l k).2.1 = true) (h : (g3 l i).1 ≠ (g3 l k).1) : Nat.Coprime (mo l i) (mo l k) := by
  have h1 := (ringB_bd hi).2.2.2.2.2
  have h2 := (ringB_bd hk).2.2.2.2.2
  have p1 := h1.1
  have p2 := h2.1
  unfold mo
  refine Nat.Coprime.pow _ _ (primes_coprime ?_ ?_ (by omega))
  · rw [Int.toNat_of_nonneg (by omega)]; exact h1
  · rw [Int.toNat_of_nonneg (by omega)]; exact h2
theorem pr_coprime {l : List Z3} {k : Nat} (h : SysTo l (k + 1)) : ∀ j, j ≤ k → Nat.Coprime (pr l j) (mo l k) := by
  intro j
  induction j with
  | zero => intro _; exact Nat.coprime_one_left _
  | succ j ih =>
    intro hj
    exact Nat.Coprime.mul_left (ih (by omega)) (mo_coprime (h j (by omega)).1 (h k (by omega)).1 ((h k (by omega)).2.2.1 j (by omega)))
theorem mo_dvd_pr {l : List Z3} {i : Nat} : ∀ k, i < k → mo l i ∣ pr l k := by
  intro k
  induction k with
  | zero => intro h; omega
  | succ k ih =>
    intro h
    by_cases hik : i = k
    · subst hik; exact Nat.dvd_mul_left _ _
    · exact Nat.dvd_trans (ih (by omega)) (Nat.dvd_mul_right _ _)
/-- The step to the next residue. -/
def sk (l : List Z3) (n : Int) (k : Nat) : Int := ((g3 l k).2.2 - n) % (mo l k : Int) * invM (pr l k % mo l k) (mo l k) % (mo l k : Int)
def slv (l : List Z3) : Nat → Int
  | 0 => 0
  | k + 1 => slv l k + (pr l k : Int) * sk l (slv l k) k
theorem sk_bd {l : List Z3} {n : Int} {k : Nat} (h : 2 ≤ mo l k) : 0 ≤ sk l n k ∧ sk l n k ≤ (mo l k : Int) - 1 := by
  have := emod_bd (((g3 l k).2.2 - n) % (mo l k : Int) * invM (pr l k % mo l k) (mo l k)) (m := (mo l k : Int)) (by omega)
  unfold sk; omega
theorem slv_bd {l : List Z3} : ∀ k, SysTo l k → 0 ≤ slv l k ∧ slv l k < (pr l k : Int) := by
  intro k
  induction k with
  | zero => intro _; exact ⟨Int.le_refl _, by show (0 : Int) < ((1 : Nat) : Int); omega⟩
  | succ k ih =>
    intro h
    obtain ⟨h1, h2⟩ := ih (h.less (by omega))
    have hm := (mo_bd (h k (by omega)).1).1
    obtain ⟨h3, h4⟩ := sk_bd (l := l) (n := slv l k) hm
    have hp := pr_pos k (h.less (by omega))
    have e1 : (0 : Int) ≤ (pr l k : Int) * sk l (slv l k) k := Int.mul_nonneg (by omega) h3
    have e2 : (pr l k : Int) * sk l (slv l k) k ≤ (pr l k : Int) * ((mo l k : Int) - 1) := Int.mul_le_mul_of_nonneg_left h4 (by omega)
    have e3 : ((pr l (k + 1) : Nat) : Int) = (pr l k : Int) * (mo l k : Int) := by show ((pr l k * mo l k : Nat) : Int) = _; rw [Int.natCast_mul]
    rw [Int.mul_sub, Int.mul_one] at e2
    rw [e3]
    show 0 ≤ slv l k + (pr l k : Int) * sk l (slv l k) k ∧ slv l k + (pr l k : Int) * sk l (slv l k) k < _
    omega
theorem sk_sum_bd {l : List Z3} {k : Nat} (h : SysTo l (k + 1)) : 0 ≤ (pr l k : Int) * sk l (slv l k) k ∧ (pr l k : Int) * sk l (slv l k) k ≤ 1000000000000 := by
  have h1 := slv_bd (k + 1) h
  have h2 := slv_bd k (h.less (by omega))
  have h3 := pr_le h
  have h4 : slv l (k + 1) = slv l k + (pr l k : Int) * sk l (slv l k) k := rfl
  have h5 := sk_bd (l := l) (n := slv l k) (mo_bd (h k (by omega)).1).1
  have e1 : (0 : Int) ≤ (pr l k : Int) * sk l (slv l k) k := Int.mul_nonneg (by omega) h5.1
  omega
theorem emod_of_dvd {a b m : Int} (h : m ∣ a - b) (h0 : 0 ≤ b) (h1 : b < m) : a % m = b := by
  have : a % m = b % m := (Int.emod_eq_emod_iff_emod_sub_eq_zero).2 (Int.emod_eq_zero_of_dvd h)
  rw [this, Int.emod_eq_of_lt h0 h1]
theorem dvd_of_emod {a b m : Int} (h : a % m = b) : m ∣ a - b := by
  rw [← h]; exact Int.dvd_self_sub_emod
theorem slv_dvd {l : List Z3} : ∀ k, SysTo l k → ∀ i, i < k → (mo l i : Int) ∣ slv l k - (g3 l i).2.2 := by
  intro k
  induction k with
  | zero => intro _ i hi; omega
  | succ k ih =>
    intro h i hi
    have hp : slv l (k + 1) = slv l k + (pr l k : Int) * sk l (slv l k) k := rfl
    rw [hp]
    by_cases hik : i = k
    · subst hik
      have hc := pr_coprime h i (Nat.le_refl _)
      have hg : Nat.gcd (pr l i % mo l i) (mo l i) = 1 := by rw [← Nat.gcd_rec, Nat.gcd_comm]; exact hc
      have d1 := invM_dvd _ _ hg
      generalize hv : (g3 l i).2.2 = v at *
      generalize hI : invM (pr l i % mo l i) (mo l i) = I at *
      have d2 : (mo l i : Int) ∣ (pr l i : Int) - ((pr l i % mo l i : Nat) : Int) := by rw [Int.natCast_emod]; exact Int.dvd_self_sub_emod
      have d3 : (mo l i : Int) ∣ (v - slv l i) - (v - slv l i) % (mo l i : Int) := Int.dvd_self_sub_emod
      have hs : sk l (slv l i) i = (v - slv l i) % (mo l i : Int) * I % (mo l i : Int) := by unfold sk; rw [hv, hI]
      have d4 : (mo l i : Int) ∣ (v - slv l i) % (mo l i : Int) * I - sk l (slv l i) i := by rw [hs]; exact Int.dvd_self_sub_emod
      generalize (v - slv l i) % (mo l i : Int) = t at *
      generalize sk l (slv l i) i = s at *
      generalize (mo l i : Int) = q at *
      generalize ((pr l i % mo l i : Nat) : Int) = r at *
      generalize (pr l i : Int) = P at *
      generalize slv l i = n at *
      have e : n + P * s - v = t * ((P - r) * I + (I * r - 1)) - P * (t * I - s) - ((v - n) - t) := by
        have e1 : (P - r) * I + (I * r - 1) = P * I - 1 := by rw [Int.sub_mul, Int.mul_comm I r]; omega
        rw [e1, Int.mul_sub, Int.mul_sub, Int.mul_one]
        have e2 : t * (P * I) = P * (t * I) := by rw [← Int.mul_assoc, ← Int.mul_assoc, Int.mul_comm t P]
        rw [e2]; omega
      rw [e]
      refine Int.dvd_sub (Int.dvd_sub (Int.dvd_mul_of_dvd_right ?_) (Int.dvd_mul_of_dvd_right d4)) d3
      exact Int.dvd_add (Int.dvd_mul_of_dvd_left d2) d1
    · have h1 := ih (h.less (by omega)) i (by omega)
      have h2 : (mo l i : Int) ∣ (pr l k : Int) * sk l (slv l k) k := Int.dvd_mul_of_dvd_left (Int.natCast_dvd_natCast.2 (mo_dvd_pr k (by omega)))
      have e : slv l k + (pr l k : Int) * sk l (slv l k) k - (g3 l i).2.2 = (slv l k - (g3 l i).2.2) + (pr l k : Int) * sk l (slv l k) k := by omega
      rw [e]
      exact Int.dvd_add h1 h2
theorem pr_dvd {l : List Z3} {x : Int} : ∀ k, SysTo l k → (∀ i, i < k → (mo l i : Int) ∣ x) → (pr l k : Int) ∣ x := by
  intro k
  induction k with
  | zero => intro _ _; show ((1 : Nat) : Int) ∣ x; exact Int.one_dvd _
  | succ k ih =>
    intro h hx
    have h1 := ih (h.less (by omega)) (fun i hi => hx i (by omega))
    have h2 := hx k (by omega)
    have h3 := pr_coprime h k (Nat.le_refl _)
    have e1 : pr l k ∣ x.natAbs := Int.ofNat_dvd_left.1 h1
    have e2 : mo l k ∣ x.natAbs := Int.ofNat_dvd_left.1 h2
    exact Int.ofNat_dvd_left.2 (Nat.Coprime.mul_dvd_of_dvd_of_dvd h3 e1 e2)
/-- n solves the system just if its remainder by the product is the least solution. -/
theorem solves_iff {l : List Z3} {k : Nat} (h : SysTo l k) (n : Int) : n % (pr l k : Int) = slv l k ↔ ∀ i, i < k → n % (mo l i : Int) = (g3 l i).2.2 := by
  have hb := slv_bd k h
  constructor
  · intro he i hi
    have d1 := dvd_of_emod he
    have d2 : (mo l i : Int) ∣ n - slv l k := Int.dvd_trans (Int.natCast_dvd_natCast.2 (mo_dvd_pr k hi)) d1
    have d3 := slv_dvd k h i hi
    have hv := inB_true (h i hi).2.1
    have e : n - (g3 l i).2.2 = (n - slv l k) + (slv l k - (g3 l i).2.2) := by omega
    exact emod_of_dvd (by rw [e]; exact Int.dvd_add d2 d3) hv.1 (by omega)
  · intro he
    refine emod_of_dvd (pr_dvd k h fun i hi => ?_) hb.1 hb.2
    have d1 := dvd_of_emod (he i hi)
    have d3 := slv_dvd k h i hi
    have e : n - slv l k = (n - (g3 l i).2.2) - (slv l k - (g3 l i).2.2) := by omega
    rw [e]
    exact Int.dvd_sub d1 d3
end Go.Proofs.Ythjoegoeaiemdaa

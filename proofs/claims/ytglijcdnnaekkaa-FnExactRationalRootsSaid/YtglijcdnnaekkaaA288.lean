/- Rational roots: the numerator divides the lowest coefficient, the denominator the highest; the two lists of candidates are one. -/
namespace Go.Proofs.Ytglijcdnnaekkaa
set_option linter.unusedVariables false
set_option linter.unusedSimpArgs false

/-- The value of a list at n / d, times a power of d. -/
def hvL (n d : Int) : List Int → Int
  | [] => 0
  | c :: cs => c * d ^ cs.length + n * hvL n d cs
def lowC : List Int → Int
  | [] => 0
  | c :: cs => if c = 0 then lowC cs else c
theorem dvd_powI {a b c : Int} (g : Int.gcd a b = 1) : ∀ k : Nat, a ∣ c * b ^ k → a ∣ c
  | 0, h => by simpa using h
  | k + 1, h => by
    rw [Int.pow_succ, ← Int.mul_assoc] at h
    refine dvd_powI g k (Int.natAbs_dvd_natAbs.1 (Nat.Coprime.dvd_of_dvd_mul_right (n := b.natAbs) g ?_))
    rw [← Int.natAbs_mul]
    exact Int.natAbs_dvd_natAbs.2 h
theorem hv_low {n d : Int} (h0 : n ≠ 0) (g : Int.gcd n d = 1) : ∀ f, hvL n d f = 0 → n ∣ lowC f
  | [], _ => ⟨0, by simp [lowC]⟩
  | c :: cs, h => by
    rw [hvL] at h
    rw [lowC]
    by_cases hc : c = 0
    · rw [if_pos hc]
      rw [hc, Int.zero_mul, Int.zero_add] at h
      rcases Int.mul_eq_zero.1 h with h1 | h1
      · exact absurd h1 h0
      · exact hv_low h0 g cs h1
    · rw [if_neg hc]
      refine dvd_powI g cs.length ⟨-hvL n d cs, ?_⟩
      rw [Int.mul_neg]
      omega
theorem hv_high (n d : Int) : ∀ c cs, ∃ k z, (c :: cs).getLast? = some z ∧ hvL n d (c :: cs) = d * k + z * n ^ cs.length
  | c, [] => ⟨0, c, rfl, by simp [hvL]⟩
  | c, c1 :: cs => by
    obtain ⟨k, z, h1, h2⟩ := hv_high n d c1 cs
    refine ⟨c * d ^ cs.length + n * k, z, by rw [List.getLast?_cons_cons]; exact h1, ?_⟩
    rw [hvL, h2, List.length_cons, Int.pow_succ, Int.pow_succ]
    grind
theorem root_bd {n d z : Int} {f : List Int} (hd : 1 ≤ d) (g : Int.gcd n d = 1) (h : hvL n d f = 0) (hz : f.getLast? = some z) (hz0 : z ≠ 0) : d ≤ z.natAbs ∧ n.natAbs ≤ (lowC f).natAbs ∨ lowC f = 0 := by
  by_cases hl : lowC f = 0
  · exact .inr hl
  refine .inl ⟨?_, ?_⟩
  · cases f with
    | nil => simp at hz
    | cons c cs =>
      obtain ⟨k, z2, h1, h2⟩ := hv_high n d c cs
      rw [hz] at h1
      injection h1 with h1
      subst h1
      rw [h] at h2
      have hdv : d ∣ z * n ^ cs.length := ⟨-k, by rw [Int.mul_neg]; omega⟩
      have := dvd_powI (by rw [Int.gcd_comm]; exact g) _ hdv
      have h3 := Int.natAbs_dvd_natAbs.2 this
      have h4 := Nat.le_of_dvd (by omega) h3
      omega
  · by_cases h0 : n = 0
    · subst h0; simp
    · have h3 := Int.natAbs_dvd_natAbs.2 (hv_low h0 g f h)
      exact Nat.le_of_dvd (by omega) h3
/-- The candidates with one denominator, from lo on. -/
def rrN (P : Int → Int → Bool) (d lo : Int) : Nat → List (Int × Int)
  | 0 => []
  | k + 1 => rrN P d lo k ++ (if P (lo + k) d then [(lo + k, d)] else [])
/-- All candidates. -/
def rrD (P : Int → Int → Bool) (B : Nat) : Nat → List (Int × Int)
  | 0 => []
  | k + 1 => rrD P B k ++ rrN P (k + 1) (-(B : Int)) (2 * B + 1)
theorem rrN_none {P : Int → Int → Bool} {d lo : Int} : ∀ k, (∀ i, i < k → P (lo + (i : Nat)) d = false) → rrN P d lo k = []
  | 0, _ => rfl
  | k + 1, h => by rw [rrN, rrN_none k (fun i hi => h i (by omega)), h k (by omega)]; rfl
theorem rrN_add {P : Int → Int → Bool} {d lo : Int} (a : Nat) : ∀ b, rrN P d lo (a + b) = rrN P d lo a ++ rrN P d (lo + a) b
  | 0 => by simp [rrN]
  | b + 1 => by
    rw [← Nat.add_assoc, rrN, rrN_add a b, rrN, List.append_assoc]
    rw [show lo + ((a + b : Nat) : Int) = lo + (a : Int) + (b : Int) by omega]
/-- A wider range brings nothing new. -/
theorem rrN_wide {P : Int → Int → Bool} {d : Int} {b B : Nat} (hb : b ≤ B) (h : ∀ n : Int, P n d = true → n.natAbs ≤ b) : rrN P d (-(B : Int)) (2 * B + 1) = rrN P d (-(b : Int)) (2 * b + 1) := by
  have hf : ∀ n : Int, b < n.natAbs → P n d = false := fun n hn => by
    cases hp : P n d
    · rfl
    · have := h n hp; omega
  rw [show 2 * B + 1 = (B - b) + ((2 * b + 1) + (B - b)) by omega, rrN_add, rrN_add]
  rw [rrN_none (B - b) (fun i hi => hf _ (by omega)), List.nil_append]
  rw [rrN_none (B - b) (fun i hi => hf _ (by omega)), List.append_nil]
  rw [show -(B : Int) + ((B - b : Nat) : Int) = -(b : Int) by omega]
theorem rrD_wide {P : Int → Int → Bool} {b B D : Nat} (hb : b ≤ B) (h : ∀ n d : Int, 1 ≤ d → P n d = true → n.natAbs ≤ b ∧ d ≤ D) : ∀ k, rrD P B (D + k) = rrD P b D
  | 0 => by
    have : ∀ m, rrD P B m = rrD P b m := fun m => by
      induction m with
      | zero => rfl
      | succ m ih => rw [rrD, rrD, ih, rrN_wide hb (fun n hn => (h n _ (by omega) hn).1)]
    exact this D
  | k + 1 => by
    rw [← Nat.add_assoc, rrD, rrD_wide hb h k, rrN_none, List.append_nil]
    intro i hi
    cases hp : P (-(B : Int) + (i : Nat)) (((D + k : Nat) : Int) + 1)
    · rfl
    · have := (h _ _ (by omega) hp).2
      omega
end Go.Proofs.Ytglijcdnnaekkaa

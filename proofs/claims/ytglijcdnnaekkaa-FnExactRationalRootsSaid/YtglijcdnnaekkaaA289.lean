/- Rational roots: no more than the degree; the list of candidates holds each once. -/
import Derived.Test.YtglijcdnnaekkaaA287
import Derived.Test.YtglijcdnnaekkaaA288
namespace Go.Proofs.Ytglijcdnnaekkaa
set_option linter.unusedVariables false
set_option linter.unusedSimpArgs false

theorem low_eqR {N D N2 D2 : Int} (h1 : 1 ≤ D) (h2 : 1 ≤ D2) (g1 : Int.gcd N D = 1) (g2 : Int.gcd N2 D2 = 1) (e : N * D2 = N2 * D) : N = N2 ∧ D = D2 := by
  have e' : N.natAbs * D2.natAbs = N2.natAbs * D.natAbs := by rw [← Int.natAbs_mul, ← Int.natAbs_mul, e]
  have d1 : D.natAbs ∣ D2.natAbs := Nat.Coprime.dvd_of_dvd_mul_left (m := N.natAbs) (Nat.Coprime.symm g1) (by rw [e']; exact Nat.dvd_mul_left _ _)
  have d2 : D2.natAbs ∣ D.natAbs := Nat.Coprime.dvd_of_dvd_mul_left (m := N2.natAbs) (Nat.Coprime.symm g2) (by rw [← e']; exact Nat.dvd_mul_left _ _)
  have hd := Nat.dvd_antisymm d1 d2
  have hD : D = D2 := by omega
  subst hD
  exact ⟨Int.eq_of_mul_eq_mul_right (by omega) e, rfl⟩
theorem rrN_mem {P : Int → Int → Bool} {d lo : Int} {x : Int × Int} : ∀ k, x ∈ rrN P d lo k → P x.1 x.2 = true ∧ x.2 = d ∧ lo ≤ x.1 ∧ x.1 < lo + (k : Nat)
  | 0, h => by simp [rrN] at h
  | k + 1, h => by
    rw [rrN, List.mem_append] at h
    rcases h with h | h
    · obtain ⟨h1, h2, h3, h4⟩ := rrN_mem k h
      exact ⟨h1, h2, h3, by omega⟩
    · by_cases hp : P (lo + (k : Nat)) d = true
      · rw [if_pos hp, List.mem_singleton] at h
        subst h
        exact ⟨hp, rfl, by simp; omega, by simp; omega⟩
      · rw [if_neg hp] at h
        simp at h
theorem rrN_nodup {P : Int → Int → Bool} {d lo : Int} : ∀ k, (rrN P d lo k).Nodup
  | 0 => List.nodup_nil
  | k + 1 => by
    rw [rrN, List.nodup_append]
    refine ⟨rrN_nodup k, by by_cases hp : P (lo + (k : Nat)) d = true <;> simp [hp], fun a ha b hb e => ?_⟩
    subst e
    have h1 := rrN_mem k ha
    by_cases hp : P (lo + (k : Nat)) d = true
    · rw [if_pos hp, List.mem_singleton] at hb
      rw [hb] at h1
      have := h1.2.2.2
      simp at this
    · rw [if_neg hp] at hb
      simp at hb
theorem rrD_mem {P : Int → Int → Bool} {B : Nat} {x : Int × Int} : ∀ k, x ∈ rrD P B k → P x.1 x.2 = true ∧ 1 ≤ x.2 ∧ x.2 ≤ (k : Nat) ∧ x.1.natAbs ≤ B
  | 0, h => by simp [rrD] at h
  | k + 1, h => by
    rw [rrD, List.mem_append] at h
    rcases h with h | h
    · obtain ⟨h1, h2, h3, h4⟩ := rrD_mem k h
      exact ⟨h1, h2, by omega, h4⟩
    · obtain ⟨h1, h2, h3, h4⟩ := rrN_mem _ h
      exact ⟨h1, by omega, by omega, by omega⟩
theorem rrD_nodup {P : Int → Int → Bool} {B : Nat} : ∀ k, (rrD P B k).Nodup
  | 0 => List.nodup_nil
  | k + 1 => by
    rw [rrD, List.nodup_append]
    refine ⟨rrD_nodup k, rrN_nodup _, fun a ha b hb e => ?_⟩
    subst e
    have h1 := rrD_mem k ha
    have h2 := rrN_mem _ hb
    omega
theorem hv_ev {n d : Int} {q : Rat} (hq : q * (d : Rat) = (n : Rat)) : ∀ c cs, ((hvL n d (c :: cs) : Int) : Rat) = (d : Rat) ^ cs.length * evQ ((c :: cs).map fun c : Int => (c : Rat)) q
  | c, [] => by
    simp [hvL, evQ]
    grind
  | c, c1 :: cs => by
    have h := hv_ev hq c1 cs
    rw [hvL, Rat.intCast_add, Rat.intCast_mul, Rat.intCast_mul, Rat.intCast_pow, h, ← hq, show evQ ((c :: c1 :: cs).map fun c : Int => (c : Rat)) q = (c : Rat) + q * evQ ((c1 :: cs).map fun c : Int => (c : Rat)) q from rfl, List.length_cons, Rat.pow_succ]
    generalize evQ ((c1 :: cs).map fun c : Int => (c : Rat)) q = X
    generalize (d : Rat) ^ cs.length = Y
    grind
theorem powQ {x : Rat} (h : x ≠ 0) : ∀ k : Nat, x ^ k ≠ 0
  | 0 => by simp
  | k + 1 => by
    rw [Rat.pow_succ]
    intro e
    rcases Rat.mul_eq_zero.1 e with h1 | h1
    · exact powQ h k h1
    · exact h h1
theorem rr_len {P : Int → Int → Bool} {f : List Int} {z : Int} (hz : f.getLast? = some z) (hz0 : z ≠ 0) (h : ∀ n d : Int, P n d = true → Int.gcd n d = 1 ∧ hvL n d f = 0) (B k : Nat) : (rrD P B k).length ≤ f.length - 1 := by
  have hr := rootsQ _ (f.map fun c : Int => (c : Rat)) rfl ⟨(z : Rat), by rw [List.getLast?_map, hz]; rfl, by
    intro e
    exact hz0 (by simpa using e)⟩ ((rrD P B k).map fun x => (x.1 : Rat) / (x.2 : Rat)) ?_ ?_
  · simpa using hr
  · unfold List.Nodup
    rw [List.pairwise_map]
    refine List.Pairwise.imp_of_mem ?_ (rrD_nodup (P := P) (B := B) k)
    intro a b ha hb hne e
    obtain ⟨a1, a2, _⟩ := rrD_mem k ha
    obtain ⟨b1, b2, _⟩ := rrD_mem k hb
    have ha0 : (a.2 : Rat) ≠ 0 := by intro e; have : a.2 = 0 := by simpa using e
                                     omega
    have hb0 : (b.2 : Rat) ≠ 0 := by intro e; have : b.2 = 0 := by simpa using e
                                     omega
    have h1 : (a.1 : Rat) * (b.2 : Rat) = (b.1 : Rat) * (a.2 : Rat) := by grind
    rw [← Rat.intCast_mul, ← Rat.intCast_mul] at h1
    have h2 : a.1 * b.2 = b.1 * a.2 := by exact_mod_cast h1
    obtain ⟨e1, e2⟩ := low_eqR a2 b2 (h _ _ a1).1 (h _ _ b1).1 h2
    exact hne (Prod.ext e1 e2)
  · intro r hm
    rw [List.mem_map] at hm
    obtain ⟨x, hx, rfl⟩ := hm
    obtain ⟨x1, x2, _⟩ := rrD_mem k hx
    have hx0 : (x.2 : Rat) ≠ 0 := by intro e; have : x.2 = 0 := by simpa using e
                                     omega
    cases f with
    | nil => simp at hz
    | cons c cs =>
      have h1 := hv_ev (n := x.1) (d := x.2) (q := (x.1 : Rat) / (x.2 : Rat)) (by grind) c cs
      rw [(h _ _ x1).2] at h1
      have h2 : (x.2 : Rat) ^ cs.length ≠ 0 := powQ hx0 _
      rcases Rat.mul_eq_zero.1 h1.symm with h3 | h3
      · exact absurd h3 h2
      · exact h3
end Go.Proofs.Ytglijcdnnaekkaa

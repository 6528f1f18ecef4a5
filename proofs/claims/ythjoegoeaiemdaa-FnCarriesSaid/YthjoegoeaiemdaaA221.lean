/- Carries and valuations of binomials, as plain facts (Kummer); bounds of Strassmann's count. -/
import Derived.Test.YthjoegoeaiemdaaA5
import Derived.Test.YthjoegoeaiemdaaA35
namespace Go.Proofs.Ythjoegoeaiemdaa
set_option linter.unusedVariables false
set_option linter.unusedSimpArgs false

theorem leg_step {p : Nat} (hp : 2 ≤ p) (n : Nat) : leg p n = n / p + leg p (n / p) := by
  rcases Nat.eq_zero_or_pos n with h | h
  · subst h; simp [leg_zero]
  · exact leg_pos hp h
theorem car_step {p : Nat} (hp : 2 ≤ p) {a b c : Nat} (hc : c ≤ 1) : car p a b c = (a % p + b % p + c) / p + car p (a / p) (b / p) ((a % p + b % p + c) / p) := by
  rcases Nat.eq_zero_or_pos (a + b) with h | h
  · obtain rfl : a = 0 := by omega
    obtain rfl : b = 0 := by omega
    have h1 : (0 % p + 0 % p + c) / p = 0 := by
      rw [Nat.zero_mod]
      exact Nat.div_eq_of_lt (by omega)
    rw [h1, Nat.zero_div, car_zero, car_zero]
  · exact car_pos hp h
theorem kummer {p : Nat} (hp : 2 ≤ p) : ∀ m a b c : Nat, a + b ≤ m → c ≤ 1 → leg p (a + b + c) = leg p a + leg p b + car p a b c := by
  intro m
  induction m with
  | zero =>
    intro a b c h hc
    obtain rfl : a = 0 := by omega
    obtain rfl : b = 0 := by omega
    rw [car_zero, leg_zero, leg_step hp]
    have h1 : (0 + 0 + c) / p = 0 := Nat.div_eq_of_lt (by omega)
    rw [h1, leg_zero]
  | succ m ih =>
    intro a b c h hc
    rcases Nat.eq_zero_or_pos (a + b) with h0 | h0
    · exact ih a b c (by omega) hc
    · have hc1 := carry_le (a := a) (b := b) hp hc
      have ha := half (a := a) hp
      have hb := half (a := b) hp
      have hdiv : (a + b + c) / p = a / p + b / p + (a % p + b % p + c) / p := by
        have e1 := Nat.div_add_mod a p
        have e2 := Nat.div_add_mod b p
        have e3 : a + b + c = (a % p + b % p + c) + p * (a / p + b / p) := by rw [Nat.mul_add]; omega
        rw [e3, Nat.add_mul_div_left _ _ (by omega)]
        omega
      have hi := ih (a / p) (b / p) ((a % p + b % p + c) / p) (by omega) hc1
      rw [leg_step hp (a + b + c), hdiv, hi, leg_step hp a, leg_step hp b, car_step hp hc]
      omega
theorem car_comm {p : Nat} (hp : 2 ≤ p) : ∀ m a b c : Nat, a + b ≤ m → c ≤ 1 → car p a b c = car p b a c := by
  intro m
  induction m with
  | zero =>
    intro a b c h _
    obtain rfl : a = 0 := by omega
    obtain rfl : b = 0 := by omega
    rfl
  | succ m ih =>
    intro a b c h hc
    rcases Nat.eq_zero_or_pos (a + b) with h0 | h0
    · exact ih a b c (by omega) hc
    · have hc1 := carry_le (a := a) (b := b) hp hc
      have ha := half (a := a) hp
      have hb := half (a := b) hp
      rw [car_step hp hc, car_step (a := b) (b := a) hp hc, Nat.add_comm (b % p) (a % p), ih (a / p) (b / p) _ (by omega) hc1]
theorem cc_sym (a b p : Int) : ccV a b p = ccV b a p ∧ ccC a b p = ccC b a p := by
  unfold ccV ccC ccB
  rw [Bool.and_comm (inB a 0 1000000000000)]
  refine ⟨?_, rfl⟩
  split
  · rename_i h
    rw [Bool.and_eq_true] at h
    have hp := (smallB_t h.1).1
    rw [car_comm (p := p.toNat) (by omega) _ a.toNat b.toNat 0 (Nat.le_refl _) (by omega)]
  · rfl
theorem bv_code {n k p : Int} (h : bvC n k p = 0) : smallB p = true ∧ 0 ≤ n ∧ n ≤ 1000000000000 ∧ 0 ≤ k ∧ k ≤ n := by
  unfold bvC codeF at h
  split at h
  · rename_i hs
    split at h
    · rename_i hb
      unfold bvB at hb
      rw [Bool.and_eq_true] at hb
      obtain ⟨h1, h2⟩ := inB_true hb.1
      obtain ⟨h3, h4⟩ := inB_true hb.2
      exact ⟨hs, h1, h2, h3, h4⟩
    · exact absurd h (by decide)
  · exact absurd h (by decide)
theorem bv_cc {n k p : Int} (h : bvC n k p = 0) : ccC k (n - k) p = 0 ∧ ccV k (n - k) p = bvV n k p := by
  obtain ⟨hs, h1, h2, h3, h4⟩ := bv_code h
  have hp := (smallB_t hs).1
  have e1 : inB k 0 1000000000000 = true := by simp [inB]; omega
  have e2 : inB (n - k) 0 1000000000000 = true := by simp [inB]; omega
  have e3 : inB n 0 1000000000000 = true := by simp [inB]; omega
  have e4 : inB k 0 n = true := by simp [inB]; omega
  unfold ccC ccV ccB codeF bvV bvB
  rw [e1, e2, e3, e4, hs]
  refine ⟨rfl, ?_⟩
  have hk := kummer (p := p.toNat) (by omega) _ k.toNat (n - k).toNat 0 (Nat.le_refl _) (by omega)
  rw [show k.toNat + (n - k).toNat + 0 = n.toNat by omega] at hk
  simp only [Bool.and_self, if_true, legI]
  omega
theorem ptl_lt (p : Nat) (xs : List Int) : ∀ k, ∀ x ∈ ptl p xs k, x.1 < (k : Int)
  | 0, x, h => by simp [ptl] at h
  | k + 1, x, h => by
    by_cases h0 : gt xs k = 0
    · rw [ptl_no h0] at h
      have := ptl_lt p xs k x h
      omega
    · rw [ptl_yes h0] at h
      rcases List.mem_append.1 h with h | h
      · have := ptl_lt p xs k x h
        omega
      · rw [List.mem_singleton.1 h]
        show (k : Int) < _
        omega
theorem bst_bd {l : List (Int × Int)} {m : Int} (h : ∀ x ∈ l, x.1 < m) (h0 : 0 < l.length) : ∀ k, k ≤ l.length → 0 < k → (bst l k).1 < m
  | 0, _, hk => by omega
  | 1, _, _ => by rw [bst_one]; exact h _ (gp_mem h0)
  | k + 2, hk, _ => by
    by_cases hb : (gp l (k + 1)).2 ≤ (bst l (k + 1)).2
    · rw [bst_yes hb]; exact h _ (gp_mem (by omega))
    · rw [bst_no hb]; exact bst_bd h h0 (k + 1) (by omega) (by omega)
theorem sc_bd {p : Int} {xs : List Int} (h : scC p xs = 0) : 0 ≤ scV p xs ∧ scV p xs < (xs.length : Int) := by
  obtain ⟨h1, h2, h3⟩ := scC_0 h
  obtain ⟨_, _, h4⟩ := polyB_bd h2
  have hl : lastI xs ≠ 0 := by rcases h4 with h4 | h4; omega; exact h4
  have hp := ptl_last (p := p.toNat) h3 hl
  unfold scV
  rw [if_pos h]
  unfold scL
  exact ⟨bst_pos (ptl_pos _ _ _) hp _ (Nat.le_refl _), bst_bd (ptl_lt _ _ _) hp _ (Nat.le_refl _) hp⟩
end Go.Proofs.Ythjoegoeaiemdaa

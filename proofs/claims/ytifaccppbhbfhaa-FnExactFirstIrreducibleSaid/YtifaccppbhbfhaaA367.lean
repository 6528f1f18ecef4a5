/- The order of polynomials is the one of both sides. -/
import Derived.Test.YtifaccppbhbfhaaA366
import Derived.Test.YtifaccppbhbfhaaA14
namespace Go.Proofs.Ytifaccppbhbfhaa
set_option linter.unusedVariables false
set_option linter.unusedSimpArgs false
open Go.RowKit

theorem cmpDn_lt {f g : List Int} : ∀ n, cmpDn f g n < 0 ↔ ∃ k, k < n ∧ gt f k < gt g k ∧ ∀ j, k < j → j < n → gt f j = gt g j
  | 0 => ⟨fun h => by simp [cmpDn] at h, fun ⟨k, h, _⟩ => by omega⟩
  | n + 1 => by
    unfold cmpDn
    by_cases h1 : gt f n < gt g n
    · rw [if_pos h1]
      exact ⟨fun _ => ⟨n, by omega, h1, fun j h2 h3 => by omega⟩, fun _ => by omega⟩
    · rw [if_neg h1]
      by_cases h2 : gt g n < gt f n
      · rw [if_pos h2]
        refine ⟨fun h => by omega, fun ⟨k, h3, h4, h5⟩ => ?_⟩
        by_cases e : k = n
        · rw [e] at h4; omega
        · have := h5 n (by omega) (by omega); omega
      · rw [if_neg h2, cmpDn_lt n]
        constructor
        · rintro ⟨k, h3, h4, h5⟩
          refine ⟨k, by omega, h4, fun j h6 h7 => ?_⟩
          by_cases e : j = n
          · rw [e]; omega
          · exact h5 j h6 (by omega)
        · rintro ⟨k, h3, h4, h5⟩
          have : k ≠ n := fun e => by rw [e] at h4; omega
          exact ⟨k, by omega, h4, fun j h6 h7 => h5 j h6 (by omega)⟩
theorem cmpDn_zero {f g : List Int} : ∀ n, cmpDn f g n = 0 ↔ ∀ j, j < n → gt f j = gt g j
  | 0 => ⟨fun _ j hj => by omega, fun _ => rfl⟩
  | n + 1 => by
    unfold cmpDn
    by_cases h1 : gt f n < gt g n
    · rw [if_pos h1]
      exact ⟨fun h => by omega, fun h => by have := h n (by omega); omega⟩
    · rw [if_neg h1]
      by_cases h2 : gt g n < gt f n
      · rw [if_pos h2]
        exact ⟨fun h => by omega, fun h => by have := h n (by omega); omega⟩
      · rw [if_neg h2, cmpDn_zero n]
        constructor
        · intro h j hj
          by_cases e : j = n
          · rw [e]; omega
          · exact h j (by omega)
        · intro h j hj; exact h j (by omega)
theorem cmpPol_less {f g : List Int} : cmpPol f g < 0 ↔ FX.LessP f g := by
  unfold cmpPol FX.LessP
  by_cases h1 : f.length < g.length
  · rw [if_pos h1]; exact ⟨fun _ => .inl h1, fun _ => by omega⟩
  · rw [if_neg h1]
    by_cases h2 : g.length < f.length
    · rw [if_pos h2]
      refine ⟨fun h => by omega, fun h => ?_⟩
      rcases h with h | ⟨h, _⟩ <;> omega
    · rw [if_neg h2, cmpDn_lt]
      constructor
      · rintro ⟨k, h3, h4, h5⟩
        refine .inr ⟨by omega, k, h4, fun j hj => ?_⟩
        by_cases hjl : j < f.length
        · exact h5 j hj hjl
        · rw [gt_big (by omega), gt_big (by omega)]
      · rintro (h | ⟨_, k, h4, h5⟩)
        · omega
        · refine ⟨k, ?_, h4, fun j hj _ => h5 j hj⟩
          rcases Nat.lt_or_ge k f.length with h6 | h6
          · exact h6
          · rw [gt_big h6, gt_big (by omega)] at h4; omega
theorem cmpPol_zero {f g : List Int} : cmpPol f g = 0 ↔ f = g := by
  unfold cmpPol
  by_cases h1 : f.length < g.length
  · rw [if_pos h1]; exact ⟨fun h => by omega, fun h => by rw [h] at h1; omega⟩
  · rw [if_neg h1]
    by_cases h2 : g.length < f.length
    · rw [if_pos h2]; exact ⟨fun h => by omega, fun h => by rw [h] at h2; omega⟩
    · rw [if_neg h2, cmpDn_zero]
      exact ⟨fun h => gt_ext (by omega) (fun j hj => h j hj), fun h j _ => by rw [h]⟩
theorem cmpPol_b (f g : List Int) : -1 ≤ cmpPol f g ∧ cmpPol f g ≤ 1 := by
  have : ∀ n, -1 ≤ cmpDn f g n ∧ cmpDn f g n ≤ 1 := fun n => by
    induction n with
    | zero => simp [cmpDn]
    | succ n ih => unfold cmpDn; split <;> (try split) <;> omega
  unfold cmpPol
  split
  · omega
  · split
    · omega
    · exact this _
end Go.Proofs.Ytifaccppbhbfhaa

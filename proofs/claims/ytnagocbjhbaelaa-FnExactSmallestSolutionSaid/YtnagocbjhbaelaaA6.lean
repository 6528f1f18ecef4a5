/- Contracts and walks: IsType, SignOfType, SizeOfType. -/
import Derived.Test.YtnagocbjhbaelaaA4
namespace Go.Proofs.Ytnagocbjhbaelaa
set_option linter.unusedVariables false
set_option linter.unusedSimpArgs false
open Go.RowKit

/-- wr is w behind some draws. -/
def DR (w wr : World) : Prop := ∃ m, wr = w.drewN m
theorem DR.refl (w : World) : DR w w := ⟨0, rfl⟩
theorem DR.step {w wr : World} (h : DR w wr) (k : Nat) : DR w (wr.drewN k) := by
  obtain ⟨m, rfl⟩ := h; exact ⟨m + k, by rw [World.drewN_drewN]⟩
theorem DR.cell {w wr : World} (h : DR w wr) (a : Addr) : wr.cell? a = w.cell? a := by
  obtain ⟨m, rfl⟩ := h; rfl
theorem DR.out {w wr : World} (h : DR w wr) : ∃ m, wr = w.drewN m := h
theorem DR.more {w wr : World} {n : Nat} (h : DR (w.drewN n) wr) : DR w wr := by
  obtain ⟨m, rfl⟩ := h; exact ⟨n + m, by rw [World.drewN_drewN]⟩
/-- The list is a type: from 1 to 6, not falling, the sum from 1 to 6. -/
def TypeP (xs : List Int) : Prop := (∀ k, k < xs.length → 1 ≤ gt xs k ∧ gt xs k ≤ 6 ∧ (0 < k → gt xs (k - 1) ≤ gt xs k)) ∧ 1 ≤ xs.sum ∧ xs.sum ≤ 6
noncomputable def typeB (xs : List Int) : Bool := @decide (TypeP xs) (Classical.propDecidable _)
theorem typeB_t {xs : List Int} (h : TypeP xs) : true = typeB xs := by simp [typeB, h]
theorem typeB_f {xs : List Int} (h : ¬ TypeP xs) : false = typeB xs := by simp [typeB, h]
theorem typeB_p {xs : List Int} (h : typeB xs = true) : TypeP xs := by simpa [typeB] using h
def sumTo (xs : List Int) (k : Nat) : Int := (xs.take k).sum
theorem sumTo_zero (xs : List Int) : sumTo xs 0 = 0 := by simp [sumTo]
theorem sumTo_succ {xs : List Int} {k : Nat} (h : k < xs.length) : sumTo xs (k + 1) = sumTo xs k + gt xs k := by
  unfold sumTo gt
  rw [List.take_succ_eq_append_getElem h, List.sum_append, List.getD_eq_getElem?_getD, List.getElem?_eq_getElem h]
  simp
theorem sumTo_all (xs : List Int) : sumTo xs xs.length = xs.sum := by simp [sumTo]
theorem sumTo_bd {xs : List Int} {lo hi : Int} : ∀ k, k ≤ xs.length → (∀ j, j < k → lo ≤ gt xs j ∧ gt xs j ≤ hi) → lo * k ≤ sumTo xs k ∧ sumTo xs k ≤ hi * k := by
  intro k
  induction k with
  | zero => intro _ _; rw [sumTo_zero]; simp
  | succ k ih =>
    intro hk h
    have h1 := ih (by omega) (fun j hj => h j (by omega))
    have h2 := h k (by omega)
    rw [sumTo_succ (by omega)]
    have e1 : lo * ((k + 1 : Nat) : Int) = lo * k + lo := by rw [Int.natCast_succ, Int.mul_add, Int.mul_one]
    have e2 : hi * ((k + 1 : Nat) : Int) = hi * k + hi := by rw [Int.natCast_succ, Int.mul_add, Int.mul_one]
    omega
theorem sumTo_mono {xs : List Int} : ∀ m k, k ≤ m → m ≤ xs.length → (∀ j, j < xs.length → 0 ≤ gt xs j) → sumTo xs k ≤ sumTo xs m := by
  intro m
  induction m with
  | zero => intro k hk _ _; obtain rfl : k = 0 := by omega
            omega
  | succ m ih =>
    intro k hk hm h
    rcases Nat.lt_or_ge m k with h1 | h1
    · obtain rfl : k = m + 1 := by omega
      omega
    · have h2 := ih k h1 (by omega) h
      rw [sumTo_succ (by omega)]
      have := h m (by omega)
      omega
theorem TypeP.len {xs : List Int} (h : TypeP xs) : 1 ≤ xs.length ∧ xs.length ≤ 6 := by
  have h1 := sumTo_bd (xs := xs) (lo := 1) (hi := 6) xs.length (Nat.le_refl _) (fun j hj => ⟨(h.1 j hj).1, (h.1 j hj).2.1⟩)
  rw [sumTo_all] at h1
  have := h.2
  omega
end Go.Proofs.Ytnagocbjhbaelaa

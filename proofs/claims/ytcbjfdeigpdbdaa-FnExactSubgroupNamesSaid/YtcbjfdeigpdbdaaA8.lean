/- Contracts and walk: SizeOfType. -/
import Derived.Test.YtcbjfdeigpdbdaaA7
namespace Go.Proofs.Ytcbjfdeigpdbdaa
set_option linter.unusedVariables false
set_option linter.unusedSimpArgs false
open Go.RowKit

/-- What is left of the count, and how many equal numbers stand behind one another, after k numbers. -/
def szF (xs : List Int) : Nat → Int × Int
  | 0 => ((fact xs.sum.toNat : Nat), 0)
  | k + 1 =>
    let e := if 0 < k ∧ gt xs k = gt xs (k - 1) then (szF xs k).2 + 1 else 1
    ((szF xs k).1 / gt xs k / e, e)
theorem szF_succ (xs : List Int) (k : Nat) : szF xs (k + 1) = ((szF xs k).1 / gt xs k / (if 0 < k ∧ gt xs k = gt xs (k - 1) then (szF xs k).2 + 1 else 1), if 0 < k ∧ gt xs k = gt xs (k - 1) then (szF xs k).2 + 1 else 1) := rfl
theorem szF_bd {xs : List Int} (h : TypeP xs) : ∀ k, k ≤ xs.length → 0 ≤ (szF xs k).1 ∧ (szF xs k).1 ≤ 720 ∧ 0 ≤ (szF xs k).2 ∧ (szF xs k).2 ≤ k := by
  intro k
  induction k with
  | zero =>
    intro _
    have := fact_le (k := xs.sum.toNat) (by have := h.2.2; omega)
    simp only [szF]; omega
  | succ k ih =>
    intro hk
    have h1 := ih (by omega)
    have h2 := h.1 k (by omega)
    rw [szF_succ]
    have h3 : 1 ≤ (if 0 < k ∧ gt xs k = gt xs (k - 1) then (szF xs k).2 + 1 else 1) ∧ (if 0 < k ∧ gt xs k = gt xs (k - 1) then (szF xs k).2 + 1 else 1) ≤ k + 1 := by split <;> omega
    have h4 : 0 ≤ (szF xs k).1 / gt xs k := Int.ediv_nonneg h1.1 (by omega)
    have h5 : (szF xs k).1 / gt xs k ≤ (szF xs k).1 := Int.ediv_le_self _ h1.1
    exact ⟨Int.ediv_nonneg h4 (by omega), Int.le_trans (Int.ediv_le_self _ h4) (by omega), by omega, by omega⟩
noncomputable def soV (xs : List Int) : Int := if typeB xs then (szF xs xs.length).1 else 0
end Go.Proofs.Ytcbjfdeigpdbdaa

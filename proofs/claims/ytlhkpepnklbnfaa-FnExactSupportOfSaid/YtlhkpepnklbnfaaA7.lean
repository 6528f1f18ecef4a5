/- Walks of the laws: IsType, SignOfType, SizeOfType. -/
import Derived.Test.YtlhkpepnklbnfaaA6
namespace Go.Proofs.Ytlhkpepnklbnfaa
set_option linter.unusedVariables false
set_option linter.unusedSimpArgs false
open Go.RowKit

theorem IS.drewN {w : World} {B : Nat} {A : Option Addr} {xs : List Int} (h : IS w B A xs) (n : Nat) : IS (w.drewN n) B A xs := h
theorem NS.drewN {w : World} {B g : Nat} {xs : List Int} (h : NS w B g xs) (n : Nat) : NS (w.drewN n) B g xs := h
theorem IS.call {w w' : World} {A : Option Addr} {xs : List Int} (h : IS w w.heap.size A xs) (hb : Below w.heap.size w w') : IS w' w'.heap.size A xs := (h.below hb).more hb.size
theorem TypeP.bd {xs : List Int} (h : TypeP xs) : ∀ k, k < xs.length → -1000000000 ≤ gt xs k ∧ gt xs k ≤ 1000000000 := fun k hk => by
  have := h.1 k hk; omega
theorem TypeP.sum_ge {xs : List Int} (h : TypeP xs) : (xs.length : Int) ≤ xs.sum := by
  have h1 := sumTo_bd (xs := xs) (lo := 1) (hi := 6) xs.length (Nat.le_refl _) (fun j hj => ⟨(h.1 j hj).1, (h.1 j hj).2.1⟩)
  rw [sumTo_all] at h1
  omega
def sgnI (n : Int) : Int := if n % 2 = 1 then -1 else 1
noncomputable def sgV (xs : List Int) : Int := if typeB xs then sgnI (xs.sum - xs.length) else 0
noncomputable def sgC (xs : List Int) : Int := if typeB xs then 0 else 1
set_option maxHeartbeats 400000 in
theorem i_size (A : Option Addr) (n c : Nat) (w : World) : Calls Try.prog 118 #[.slice A n c] w (Q (.int .i64 n) w) := by
  go_enter Try.func118, Try.ntmps118
  go_wp2_with (fail)
  go_ret
  exact ⟨rfl, 0, rfl⟩
def fact : Nat → Nat
  | 0 => 1
  | k + 1 => (k + 1) * fact k
theorem fact_le {k : Nat} (h : k ≤ 6) : 1 ≤ fact k ∧ fact k ≤ 720 := by
  have : k = 0 ∨ k = 1 ∨ k = 2 ∨ k = 3 ∨ k = 4 ∨ k = 5 ∨ k = 6 := by omega
  rcases this with rfl | rfl | rfl | rfl | rfl | rfl | rfl <;> decide
theorem fact_pos : ∀ k : Nat, 1 ≤ fact k
  | 0 => Nat.le_refl _
  | k + 1 => by
    have h := fact_pos k
    have : k + 1 ≤ (k + 1) * fact k := Nat.le_mul_of_pos_right _ h
    rw [fact]; omega
theorem fact_self : ∀ k : Nat, k ≤ fact k
  | 0 => by simp
  | k + 1 => Nat.le_mul_of_pos_right _ (fact_pos k)
end Go.Proofs.Ytlhkpepnklbnfaa

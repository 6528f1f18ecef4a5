/- Contracts: SumPolynomial, CubicResolvent; laws whose result is a slice of int64. -/
import Derived.Test.YtkhadipfibllnaaA17
import Derived.Test.YtkhadipfibllnaaA13
namespace Go.Proofs.Ytkhadipfibllnaa
set_option linter.unusedVariables false
set_option linter.unusedSimpArgs false
open Go.RowKit

theorem mul_bd {x y : Int} {a b : Nat} (hx : x.natAbs ≤ a) (hy : y.natAbs ≤ b) : (x * y).natAbs ≤ a * b := by
  rw [Int.natAbs_mul]; exact Nat.mul_le_mul hx hy
noncomputable def codeM (xs : List Int) (lo hi : Int) : Int := if polyB xs then (if modB xs then (if lo ≤ (xs.length : Int) - 1 ∧ (xs.length : Int) - 1 ≤ hi then 0 else 5) else 2) else 1
theorem codeM_0 {xs : List Int} {lo hi : Int} (h : codeM xs lo hi = 0) : polyB xs = true ∧ modB xs = true ∧ lo ≤ (xs.length : Int) - 1 ∧ (xs.length : Int) - 1 ≤ hi := by
  unfold codeM at h
  cases h1 : polyB xs <;> cases h2 : modB xs <;> rw [h1, h2] at h <;> simp at h
  exact ⟨rfl, rfl, h.1, h.2⟩
theorem modB_all {xs : List Int} (h : modB xs = true) : ∀ k, k < xs.length → -20 ≤ gt xs k ∧ gt xs k ≤ 20 := by
  unfold modB at h
  simp only [Bool.and_eq_true] at h
  intro k hk
  exact inB_true (allB_p h.1 k hk)
/-- What a call gives that returns a slice of its own and a code. -/
def RS (l : List Int) (c : Int) (w : World) (e : Ending) (w' : World) : Prop :=
  ∃ A cap, e = .returned (.tuple #[.slice A l.length cap, .int .i64 c]) ∧ w'.ownsRow w.heap.size 2 1 (.slice A l.length cap) l.length (ints l) ∧ Below w.heap.size w w'
theorem RS.nil {w w' : World} {c : Int} (hb : Below w.heap.size w w') : RS [] c w (.returned (.tuple #[.slice none 0 0, .int .i64 c])) w' :=
  ⟨none, 0, rfl, World.ownsRow_nil _ _ _ _, hb⟩
theorem RS.lit {w : World} {c : Int} (l : List Int) (hm : l.length ≤ maxLen) : RS l c w (.returned (.tuple #[.slice (some ⟨w.heap.size, 0, none⟩) l.length l.length, .int .i64 c])) (w.alloc (.cells (ints l).toArray 2)) := by
  refine ⟨_, _, rfl, ?_, (Below.refl _ _).alloc (Nat.le_refl _) _⟩
  have h := World.ownsRow_lit (base := w.heap.size) (size := 1) (e := 2) w (ints l).toArray l.length (Nat.le_refl _) hm (by simp [ints])
  simpa using h
theorem RS.pre {w w1 : World} {l : List Int} {c : Int} {e : Ending} {w' : World} (h : RS l c w1 e w') (hb : Below w.heap.size w w1) : RS l c w e w' := by
  obtain ⟨A, cap, h1, h2, h3⟩ := h
  exact ⟨A, cap, h1, own_mono h2 hb.size, bel_call hb h3⟩
theorem RS.drewN {w w' : World} {l : List Int} {c : Int} {e : Ending} (h : RS l c w e w') (n : Nat) : RS l c w e (w'.drewN n) := by
  obtain ⟨A, cap, h1, h2, h3⟩ := h
  exact ⟨A, cap, h1, h2, below_drewN h3 n⟩
noncomputable def spL (xs : List Int) : List Int := if codeM xs 3 3 = 0 then [gt xs 2 * gt xs 1 - gt xs 0, gt xs 2 * gt xs 2 + gt xs 1, 2 * gt xs 2, 1] else []
end Go.Proofs.Ytkhadipfibllnaa

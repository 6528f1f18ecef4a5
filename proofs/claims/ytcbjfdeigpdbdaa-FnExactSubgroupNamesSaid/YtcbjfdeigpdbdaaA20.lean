/- Contracts and walks: CubicResolvent, ResolventRoots. -/
import Derived.Test.YtcbjfdeigpdbdaaA19
namespace Go.Proofs.Ytcbjfdeigpdbdaa
set_option linter.unusedVariables false
set_option linter.unusedSimpArgs false
open Go.RowKit

def cubE (xs : List Int) : List Int := [-(gt xs 3 * gt xs 3 * gt xs 0 - 4 * gt xs 2 * gt xs 0 + gt xs 1 * gt xs 1), gt xs 3 * gt xs 1 - 4 * gt xs 0, -gt xs 2, 1]
/-- A slice of the call's own. -/
def RV (l : List Int) (w : World) (e : Ending) (w' : World) : Prop :=
  ∃ A cap, e = .returned (.slice A l.length cap) ∧ w'.ownsRow w.heap.size 2 1 (.slice A l.length cap) l.length (ints l) ∧ Below w.heap.size w w'
theorem RV.lit {w : World} (l : List Int) (hm : l.length ≤ maxLen) : RV l w (.returned (.slice (some ⟨w.heap.size, 0, none⟩) l.length l.length)) (w.alloc (.cells (ints l).toArray 2)) := by
  refine ⟨_, _, rfl, ?_, (Below.refl _ _).alloc (Nat.le_refl _) _⟩
  have h := World.ownsRow_lit (base := w.heap.size) (size := 1) (e := 2) w (ints l).toArray l.length (Nat.le_refl _) hm (by simp [ints])
  simpa using h
theorem RV.drewN {w w' : World} {l : List Int} {e : Ending} (h : RV l w e w') (n : Nat) : RV l w e (w'.drewN n) := by
  obtain ⟨A, cap, h1, h2, h3⟩ := h
  exact ⟨A, cap, h1, h2, below_drewN h3 n⟩
noncomputable def cubL (xs : List Int) : List Int := if codeM xs 4 4 = 0 then cubE xs else []
theorem cubL_len (xs : List Int) : (cubL xs).length ≤ 1048576 := by unfold cubL cubE; split <;> simp
end Go.Proofs.Ytcbjfdeigpdbdaa

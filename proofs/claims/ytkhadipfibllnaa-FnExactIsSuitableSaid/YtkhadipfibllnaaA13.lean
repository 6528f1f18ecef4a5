/- Contracts and walks: the program's IsPolynomial, IsSmall, IsModerate; the law of IsModerate. -/
import Derived.Test.YtkhadipfibllnaaA12
namespace Go.Proofs.Ytkhadipfibllnaa
set_option linter.unusedVariables false
set_option linter.unusedSimpArgs false
open Go.RowKit

theorem smallPB_len {xs : List Int} (h : smallPB xs = true) : 2 ≤ xs.length ∧ xs.length ≤ 5 := by
  unfold smallPB at h; simp at h; exact h.2.2
def monB (xs : List Int) : Bool := decide (0 < xs.length) && lastI xs == 1
end Go.Proofs.Ytkhadipfibllnaa

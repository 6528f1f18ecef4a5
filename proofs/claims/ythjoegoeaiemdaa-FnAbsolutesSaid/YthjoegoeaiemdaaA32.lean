/- Walk: the law of ClosenessAt. -/
import Derived.Test.YthjoegoeaiemdaaA31
namespace Go.Proofs.Ythjoegoeaiemdaa
set_option linter.unusedVariables false
set_option linter.unusedSimpArgs false
open Go.RowKit

theorem keepS {w0 w1 w2 : World} {g : Nat} {a b c d : Value} (hg : g + 1 < w0.heap.size)
    (h : Below w0.heap.size w0 w1 ∧ w1.cell? ⟨g, 0, none⟩ = some a ∧ w1.cell? ⟨g, 1, none⟩ = some b ∧ w1.cell? ⟨g + 1, 0, none⟩ = some c ∧ w1.cell? ⟨g + 1, 1, none⟩ = some d) (hb : Below w1.heap.size w1 w2) :
    Below w0.heap.size w0 w2 ∧ w2.cell? ⟨g, 0, none⟩ = some a ∧ w2.cell? ⟨g, 1, none⟩ = some b ∧ w2.cell? ⟨g + 1, 0, none⟩ = some c ∧ w2.cell? ⟨g + 1, 1, none⟩ = some d := by
  obtain ⟨h0, h1, h2, h3, h4⟩ := h
  have hs := h0.size
  refine ⟨h0.trans (hb.mono hs), ?_, ?_, ?_, ?_⟩
  · rw [hb.cell (by simp; omega)]; exact h1
  · rw [hb.cell (by simp; omega)]; exact h2
  · rw [hb.cell (by simp; omega)]; exact h3
  · rw [hb.cell (by simp; omega)]; exact h4
end Go.Proofs.Ythjoegoeaiemdaa

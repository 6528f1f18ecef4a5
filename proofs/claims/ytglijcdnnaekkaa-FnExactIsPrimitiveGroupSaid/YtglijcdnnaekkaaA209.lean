/- BlockWith: the reference's side, and the law. -/
import Derived.Test.YtglijcdnnaekkaaA208
import Derived.Test.YtglijcdnnaekkaaA206
import Derived.Test.YtglijcdnnaekkaaA176
namespace Go.Proofs.Ytglijcdnnaekkaa
set_option linter.unusedVariables false
set_option linter.unusedSimpArgs false
open Go.RowKit

theorem mvL_two {n : Nat} {l : List Int} {a b : Int} (hg : grpB n l = true) : mvL n l [a, b] = if (!inB a 0 ((n : Int) - 1) || !inB b 0 ((n : Int) - 1)) = true then 2 else 0 := by
  unfold mvL
  rw [hg]
  simp
theorem mvL_no {p : Int} {l pts : List Int} (hg : grpB p l = false) : mvL p l pts = 1 := by unfold mvL; rw [hg]; rfl
/-- A slice of int64 of the call's own, its block between two bounds. -/
structure OB (w : World) (lo hi : Nat) (A : Option Addr) (n c : Nat) (l : List Int) : Prop where
  own : w.ownsRow lo 2 1 (.slice A n c) n (ints l)
  lt : ∀ g, (Value.slice A n c).ownBlock = some g → g < hi
section
variable {w w' : World} {lo hi n c : Nat} {A : Option Addr} {l : List Int}
theorem OB.mk' (h : w.ownsRow lo 2 1 (.slice A n c) n (ints l)) : OB w lo w.heap.size A n c l := ⟨h, fun g hg => (h.lt g hg).2⟩
theorem OB.is (h : OB w lo hi A n c l) (hn : n = l.length) : IS w w.heap.size A l := own_isn h.own hn
theorem OB.below (h : OB w lo hi A n c l) (hb : Below w.heap.size w w') : OB w' lo hi A n c l := ⟨own_below h.own hb, h.lt⟩
theorem OB.dr (h : OB w lo hi A n c l) (k : Nat) : OB (w.drewN k) lo hi A n c l := ⟨own_dr h.own k, h.lt⟩
theorem OB.grown {row : Option Nat} (h : OB w lo hi A n c l) (hg : w.grownBy w' row) (hr : ∀ g, row = some g → g < lo ∨ hi ≤ g) : OB w' lo hi A n c l := by
  refine ⟨h.own.kept hg ?_, h.lt⟩
  cases hb : (Value.slice A n c).ownBlock with
  | none => exact .inl rfl
  | some g => exact .inr fun e => by have h1 := h.own.lt g hb; have h2 := h.lt g hb; have := hr g e.symm; omega
end
end Go.Proofs.Ytglijcdnnaekkaa

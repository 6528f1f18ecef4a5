/- RationalRoots: rows of two cells. -/
import Derived.Test.YtglijcdnnaekkaaA292
import Derived.Test.YtglijcdnnaekkaaA291
namespace Go.Proofs.Ytglijcdnnaekkaa
set_option linter.unusedVariables false
set_option linter.unusedSimpArgs false
open Go.RowKit

def rC : List (Int × Int) → List Value
  | [] => []
  | x :: l => .int .i64 x.1 :: .int .i64 x.2 :: rC l
theorem rC_len : ∀ l, (rC l).length = l.length * 2
  | [] => rfl
  | x :: l => by simp [rC, rC_len l]; omega
theorem rC_at : ∀ {l : List (Int × Int)} {k : Nat}, k < l.length → (rC l)[k * 2]? = some (.int .i64 (gPr l k).1) ∧ (rC l)[k * 2 + 1]? = some (.int .i64 (gPr l k).2)
  | [], _, h => by simp at h
  | x :: l, 0, _ => by simp [rC, gPr]
  | x :: l, k + 1, h => by
    have := rC_at (l := l) (k := k) (by simpa using h)
    rw [show (k + 1) * 2 = k * 2 + 1 + 1 by omega]
    simpa [rC, gPr] using this
theorem rC_snoc (x : Int × Int) : ∀ l, rC (l ++ [x]) = rC l ++ [.int .i64 x.1, .int .i64 x.2]
  | [] => rfl
  | y :: l => by simp [rC, rC_snoc x l]
theorem rC_set (x : Int × Int) : ∀ (l : List (Int × Int)) (k : Nat), rC (l.set k x) = ((rC l).set (k * 2) (.int .i64 x.1)).set (k * 2 + 1) (.int .i64 x.2)
  | [], k => by simp [rC]
  | y :: l, 0 => by simp [rC]
  | y :: l, k + 1 => by
    rw [show (k + 1) * 2 = k * 2 + 1 + 1 by omega]
    simp [rC, rC_set x l k]
theorem rC_app : ∀ l l', rC (l ++ l') = rC l ++ rC l'
  | [], _ => rfl
  | x :: l, l' => by simp [rC, rC_app l l']
/-- A struct stored into a row. -/
theorem rC_stored {w : World} {base g n c : Nat} {l : List (Int × Int)} (ho : w.ownsRow base 46 2 (.slice (some ⟨g, 0, none⟩) n c) n (rC l)) (j : Nat) (x : Int × Int) :
    ((w.setCell ⟨g, j * 2, none⟩ (.int .i64 x.1)).setCell ⟨g, j * 2 + 1, none⟩ (.int .i64 x.2)).ownsRow base 46 2 (.slice (some ⟨g, 0, none⟩) n c) n (rC (l.set j x)) ∧ w.grownBy ((w.setCell ⟨g, j * 2, none⟩ (.int .i64 x.1)).setCell ⟨g, j * 2 + 1, none⟩ (.int .i64 x.2)) (some g) := by
  have s1 := ho.stored (j * 2) (.int .i64 x.1)
  have s2 := s1.1.stored (j * 2 + 1) (.int .i64 x.2)
  rw [rC_set]
  exact ⟨s2.1, grown_trans s1.2 s2.2⟩
end Go.Proofs.Ytglijcdnnaekkaa

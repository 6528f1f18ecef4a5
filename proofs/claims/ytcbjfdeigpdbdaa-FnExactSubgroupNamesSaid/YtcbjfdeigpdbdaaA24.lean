/- Contracts and walks: AbsoluteAt. -/
import Derived.Test.YtcbjfdeigpdbdaaA23
import Derived.Test.YtcbjfdeigpdbdaaA4
namespace Go.Proofs.Ytcbjfdeigpdbdaa
set_option linter.unusedVariables false
set_option linter.unusedSimpArgs false
open Go.RowKit

noncomputable def aN (a b p : Int) : Int := if vcode a b p = 0 then ((p.toNat ^ val p.toNat b.natAbs : Nat) : Int) else 0
noncomputable def aD (a b p : Int) : Int := if vcode a b p = 0 then ((p.toNat ^ val p.toNat a.natAbs : Nat) : Int) else 0
/-- A struct of two numbers and a code. -/
def MR (x y c : Int) (w : World) (e : Ending) (w' : World) : Prop := e = .returned (.tuple #[.agg #[.int .i64 x, .int .i64 y], .int .i64 c]) ∧ Below w.heap.size w w'
theorem ret_aii {a b c a' b' c' : Int} (h1 : a = a') (h2 : b = b') (h3 : c = c') : Ending.returned (.tuple #[.agg #[.int .i64 a, .int .i64 b], .int .i64 c]) = .returned (.tuple #[.agg #[.int .i64 a', .int .i64 b'], .int .i64 c']) := by rw [h1, h2, h3]
theorem coprime_val {a b : Int} {p : Nat} (hp : 2 ≤ p) (h : Int.gcd a b = 1) : val p a.natAbs = 0 ∨ val p b.natAbs = 0 := by
  rcases Nat.eq_zero_or_pos (val p a.natAbs) with h1 | h1
  · exact .inl h1
  · rcases Nat.eq_zero_or_pos (val p b.natAbs) with h2 | h2
    · exact .inr h2
    · have d := Nat.dvd_gcd (val_pos_dvd h1) (val_pos_dvd h2)
      unfold Int.gcd at h
      rw [h] at d
      have := Nat.le_of_dvd (by omega) d
      omega
theorem set2 {w : World} {g : Nat} {t : TypeId} {a b x y : Value} (h : BK w g t #[a, b]) : ((w.setCell ⟨g, 0, none⟩ x).setCell ⟨g, 1, none⟩ y).cell? ⟨g, 0, none⟩ = some x ∧ ((w.setCell ⟨g, 0, none⟩ x).setCell ⟨g, 1, none⟩ y).cell? ⟨g, 1, none⟩ = some y := by
  have h1 := (h.set 0 x).set 1 y
  rw [h1.cell, h1.cell]
  exact ⟨rfl, rfl⟩
theorem two_alloc (w : World) (o1 o2 : Obj) : Below w.heap.size w ((w.alloc o1).alloc o2) := ((Below.refl _ _).alloc (Nat.le_refl _) _).alloc (by simp) _
end Go.Proofs.Ytcbjfdeigpdbdaa

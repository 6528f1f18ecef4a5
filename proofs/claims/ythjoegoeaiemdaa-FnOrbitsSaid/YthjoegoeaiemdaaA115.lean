/- The laws' dice: numbers that follow from a code. -/
import Derived.Test.YthjoegoeaiemdaaA112
import Derived.Deep.RegionLaw
import Derived.Laws.Bits64b
namespace Go.Proofs.Ythjoegoeaiemdaa
set_option linter.unusedVariables false
set_option linter.unusedSimpArgs false
open Go.RowKit

theorem u64_wrap (v : Int) : ∃ h : Nat, IntKind.u64.wrap v = (h : Int) ∧ h < 18446744073709551616 := by
  refine ⟨(v % 18446744073709551616).toNat, ?_, ?_⟩
  · have h0 : 0 ≤ v % 18446744073709551616 := Int.emod_nonneg _ (by omega)
    rw [Int.toNat_of_nonneg h0]
    first
      | rfl
      | (unfold IntKind.wrap; simp [IntKind.bits, IntKind.signed])
  · have h0 : 0 ≤ v % 18446744073709551616 := Int.emod_nonneg _ (by omega)
    have h1 : v % 18446744073709551616 < 18446744073709551616 := Int.emod_lt_of_pos _ (by omega)
    omega
theorem yb_up {g B : Nat} {w w' : World} {A : Option Addr} {n : Nat} (h : YB w g A n) (hu : Up g B w w') (hB : g ≤ B) : YB w' g A n := fun h0 => by
  obtain ⟨b, off, e1, e2, e3⟩ := h h0
  refine ⟨b, off, e1, e2, fun k hk => ?_⟩
  obtain ⟨x, hx, hc⟩ := e3 k hk
  exact ⟨x, hx, (hu.cell (p := ⟨b, off + k, none⟩) (by show b < _; omega) (by show b ≠ g; omega)).trans hc⟩
theorem x_fact (V : Int) : ∃ q : Nat, q ≤ 16777215 ∧ wrap64 (bits BinOp.and IntKind.u64 (IntKind.u64.wrap V / 8589934592) 16777215) = (q : Int) := by
  obtain ⟨h, e, hl⟩ := u64_wrap V
  rw [e]
  have e2 : (h : Int) / 8589934592 = ((h / 8589934592 : Nat) : Int) := by omega
  have e3 : (16777215 : Int) = ((16777215 : Nat) : Int) := rfl
  rw [e2, e3, bits_and_u64_nat _ _ (by omega) (by omega)]
  obtain ⟨q, hq⟩ : ∃ q, q = h / 8589934592 &&& 16777215 := ⟨_, rfl⟩
  have hle : q ≤ 16777215 := by rw [hq]; exact Nat.and_le_right
  rw [← hq]
  exact ⟨q, hle, IntWalk.wrap64_in _ (by omega)⟩
end Go.Proofs.Ythjoegoeaiemdaa

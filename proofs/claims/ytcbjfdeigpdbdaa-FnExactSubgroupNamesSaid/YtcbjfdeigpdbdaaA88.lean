/- The law of TransitiveNames. -/
import Derived.Test.YtcbjfdeigpdbdaaA87
namespace Go.Proofs.Ytcbjfdeigpdbdaa
set_option linter.unusedVariables false
set_option linter.unusedSimpArgs false
open Go.RowKit

theorem tnL_len (n : Int) : (tnL n).length ≤ 5 := by
  unfold tnL
  split
  · rename_i h
    obtain ⟨h1, h2⟩ := inB_true h
    obtain ⟨m, rfl⟩ := Int.eq_ofNat_of_zero_le (show 0 ≤ n by omega)
    have hm : m < 6 := by omega
    have : ∀ m : Fin 6, (nmK ((m : Nat) : Int) 14).length ≤ 5 := by decide +kernel
    exact this ⟨m, hm⟩
  · simp
theorem ownS_below {w w' : World} {base m : Nat} {v : Value} {E : List (List UInt8)} (h : OwnS w base v m E) (hb : Below w.heap.size w w') : OwnS w' base v m E := by
  obtain ⟨bs, h1, h2⟩ := h
  exact ⟨bs, own_below h1 hb, h2⟩
end Go.Proofs.Ytcbjfdeigpdbdaa

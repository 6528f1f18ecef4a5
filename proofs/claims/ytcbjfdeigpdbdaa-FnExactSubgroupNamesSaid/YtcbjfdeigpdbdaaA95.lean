/- Signs; IsEvenName. -/
import Derived.Test.YtcbjfdeigpdbdaaA94
import Derived.Test.YtcbjfdeigpdbdaaA83
namespace Go.Proofs.Ytcbjfdeigpdbdaa
set_option linter.unusedVariables false
set_option linter.unusedSimpArgs false
open Go.RowKit

def parN (a : List Int) : Int := if (a.length - (cycL a).length) % 2 = 1 then -1 else 1
theorem cycL_len (a : List Int) : (cycL a).length ≤ a.length := by
  have := cyc_len a a.length 0 (List.replicate a.length false) []
  simpa [cycL] using this
theorem MII.len {ll : List (List Int)} {w : World} {e : Ending} {w' : World} {L : Nat} (hL : ll.length = L) (h : MII ll w e w') : ∃ A c, e = .returned (.slice A L c) ∧ Below w.heap.size w w' := by
  obtain ⟨A, c, vs, h1, _, _, h2⟩ := h
  subst hL
  exact ⟨A, c, h1, h2⟩
end Go.Proofs.Ytcbjfdeigpdbdaa

/- Which groups of the library are parts of which: sizes divide. -/
import Derived.Test.YtglijcdnnaekkaaGreatA134
import Derived.Test.YtglijcdnnaekkaaGreatA137
namespace Go.Proofs.YtglijcdnnaekkaaGreat
set_option linter.unusedVariables false
set_option linter.unusedSimpArgs false
open Go.RowKit

def chkC (n : Nat) (l l' : List Int) (r : Nat) : Bool := (memL n l).all fun b => l'.contains ((rk (cjL (wrL n r) b) : Nat) : Int)
def divOk (i k : Nat) : Bool := lbP i != lbP k || ((RK (lbP k) (lbG k)).length % (RK (lbP i) (lbG i)).length == 0 || (List.range (fact (lbP i))).all fun r => !chkC (lbP i) (RK (lbP i) (lbG i)) (RK (lbP k) (lbG k)) r)
set_option maxRecDepth 100000 in
theorem rk14 : ∀ i : Fin 14, 0 < (RK (lbP i) (lbG i)).length := by decide +kernel
set_option maxRecDepth 100000 in
theorem div14 : ∀ i k : Fin 14, divOk i k = true := by decide +kernel
end Go.Proofs.YtglijcdnnaekkaaGreat

/- Plain facts: the types of a subgroup's elements occur in the group. -/
import Derived.Test.YtglijcdnnaekkaaGreatA142
import Derived.Test.YtglijcdnnaekkaaGreatA101
namespace Go.Proofs.YtglijcdnnaekkaaGreat
set_option linter.unusedVariables false
set_option linter.unusedSimpArgs false

def tyI (a : List Int) : List Int := insS (lnL (cycL a)) (cycL a).length
theorem ty_ins (a : List Int) : tyI a = tyS a := by
  have h := insS_sort (lnL (cycL a))
  rw [show (lnL (cycL a)).length = (cycL a).length by simp [lnL]] at h
  rw [tyI, h]; rfl
/-- Every element's type occurs, or no conjugate lies inside, or the size does not divide. -/
def tyOk (i k : Nat) : Bool := !(lbP i == lbP k) || !((RK (lbP i) (lbG i)).length % (RK (lbP k) (lbG k)).length == 0) || ((memL (lbP k) (RK (lbP k) (lbG k))).all fun b => (memL (lbP i) (RK (lbP i) (lbG i))).any fun a => tyI a == tyI b) || ((List.range (fact (lbP k))).all fun r => !chkC (lbP k) (RK (lbP k) (lbG k)) (RK (lbP i) (lbG i)) r)
theorem ty_ok : ∀ i k : Fin 14, tyOk i k = true := by decide +kernel
end Go.Proofs.YtglijcdnnaekkaaGreat

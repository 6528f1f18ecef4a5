/- Images of sets of points; is a set a block: the program's side. -/
import Derived.Test.YthjoegoeaiemdaaA202
import Derived.Test.YthjoegoeaiemdaaA173
import Derived.Test.YthjoegoeaiemdaaA174
namespace Go.Proofs.Ythjoegoeaiemdaa
set_option linter.unusedVariables false
set_option linter.unusedSimpArgs false
open Go.RowKit

set_option maxHeartbeats 1000000 in
theorem c_contAny (A : Option Addr) (L c : Nat) (v : Value) (b : Bool) (w : World) (hc : Calls Try.prog 159 #[.slice A L c, v] w (fun e w' => ∃ k : Int, e = .returned (.int .i64 k) ∧ decide (0 ≤ k) = b ∧ ∃ m, w' = w.drewN m)) :
    Calls Try.prog 121 #[.slice A L c, v] w (Q (.bool b) w) := by
  cases b
  · have hc2 := hc.mono (R' := fun e w' => ∃ k : Int, e = .returned (.int .i64 k) ∧ k < 0 ∧ ∃ m, w' = w.drewN m) (fun e w' ⟨k, h1, h2, h3⟩ => ⟨k, h1, by have := of_decide_eq_false h2; omega, h3⟩)
    clear hc
    go_enter Try.func121, Try.ntmps121
    go_wp2_with (go_at_call 159; refine hc2.mono ?_; rintro e w1 ⟨k, rfl, hk, m, rfl⟩)
    go_ret
    exact ⟨ret_bool (by first | rfl | (simp; omega)), m, rfl⟩
  · have hc2 := hc.mono (R' := fun e w' => ∃ k : Int, e = .returned (.int .i64 k) ∧ 0 ≤ k ∧ ∃ m, w' = w.drewN m) (fun e w' ⟨k, h1, h2, h3⟩ => ⟨k, h1, of_decide_eq_true h2, h3⟩)
    clear hc
    go_enter Try.func121, Try.ntmps121
    go_wp2_with (go_at_call 159; refine hc2.mono ?_; rintro e w1 ⟨k, rfl, hk, m, rfl⟩)
    go_ret
    exact ⟨ret_bool (by first | rfl | (simp; omega)), m, rfl⟩
/-- A set that a permutation neither keeps nor moves away as a whole. -/
def badB (a pts : List Int) : Bool := !(decide (imgL a pts = pts)) && (imgL a pts).any fun x => decide (x ∈ pts)
theorem blkB_eq (ms : List (List Int)) (pts : List Int) : blkB ms pts = !(ms.any fun a => badB a pts) := rfl
end Go.Proofs.Ythjoegoeaiemdaa

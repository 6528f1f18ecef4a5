/- RationalRoots: the program's sort. -/
import Derived.Test.YtglijcdnnaekkaaA294
import Derived.Test.YtglijcdnnaekkaaA266
namespace Go.Proofs.Ytglijcdnnaekkaa
set_option linter.unusedVariables false
set_option linter.unusedSimpArgs false
open Go.RowKit

def SRQ (g n c base : Nat) (l : List (Int × Int)) (w : World) (e : Ending) (w' : World) : Prop := e = .returned (.tuple #[]) ∧ w'.ownsRow base 46 2 (.slice (some ⟨g, 0, none⟩) n c) n (rC (srtQ l)) ∧ w.grownBy w' (some g)
set_option maxHeartbeats 1000000 in
theorem c_pdqQ (g n c base : Nat) (lim : Int) (l : List (Int × Int)) (w : World) (hn : n = l.length) (h1 : 1 ≤ n) (hl : n ≤ 12) (hbd : ∀ a ∈ l, (-60 ≤ a.1 ∧ a.1 ≤ 60) ∧ -60 ≤ a.2 ∧ a.2 ≤ 60) (ho : w.ownsRow base 46 2 (.slice (some ⟨g, 0, none⟩) n c) n (rC l)) :
    Calls Try.prog 118 #[.slice (some ⟨g, 0, none⟩) n c, .int .i64 0, .int .i64 n, .int .i64 lim, .func (.func 71) #[] #[]] w (SRQ g n c base l w) := by
  have hins := c_insSortQ g n c base l w hn h1 hl hbd ho
  have h12 : (n : Int) ≤ 12 := by omega
  clear hn hbd ho
  go_enter Try.func118, Try.ntmps118
  go_wp2_with (fail)
  go_loopw [1, 2] (fun u1 u2 wr => u1 = .int .i64 0 ∧ u2 = .int .i64 n ∧ wr = w) (fun _ _ _ => 0)
  case atStart => exact ⟨rfl, rfl, rfl⟩
  case round =>
    obtain ⟨rfl, rfl, rfl⟩ := hrel
    go_wp2_with (go_at_call 143; refine hins.mono ?_; rintro e w2 ⟨rfl, ho2, hg2⟩)
    first
      | go_end0
      | refine bodyPost_ret (results_none rfl _ _ _) rfl ?_
    exact ⟨rfl, ho2, hg2⟩
set_option maxHeartbeats 1000000 in
theorem c_sortFnQ (g n c base : Nat) (l : List (Int × Int)) (w : World) (hn : n = l.length) (h1 : 1 ≤ n) (hl : n ≤ 12) (hbd : ∀ a ∈ l, (-60 ≤ a.1 ∧ a.1 ≤ 60) ∧ -60 ≤ a.2 ∧ a.2 ≤ 60) (ho : w.ownsRow base 46 2 (.slice (some ⟨g, 0, none⟩) n c) n (rC l)) :
    Calls Try.prog 70 #[.slice (some ⟨g, 0, none⟩) n c, .func (.func 71) #[] #[]] w (SRQ g n c base l w) := by
  have hp := fun lim m => c_pdqQ g n c base lim l (w.drewN m) hn h1 hl hbd ho
  have hlen := fun W => c_len n h1 hl W
  have hw1 : IntKind.u64.wrap (n : Int) = (n : Int) := by first | exact IntWalk.u64_in _ (by omega) (by omega) | (unfold IntKind.wrap; simp [IntKind.bits, IntKind.signed]; omega)
  clear hn hbd ho
  go_enter Try.func70, Try.ntmps70
  go_wp2_with (first
    | (go_at_call 119; refine (hlen _).mono ?_; rintro e w2 ⟨v, rfl, m, rfl⟩)
    | (go_at_call 118; refine (hp _ _).mono ?_; rintro e w3 ⟨rfl, ho2, hg2⟩))
  first
    | go_end0
    | refine bodyPost_ret (results_none rfl _ _ _) rfl ?_
  exact ⟨rfl, ho2, undrewG hg2⟩
end Go.Proofs.Ytglijcdnnaekkaa

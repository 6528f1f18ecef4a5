/- The law of GroupNamed. -/
import Derived.Test.YtglijcdnnaekkaaGreatA83
namespace Go.Proofs.YtglijcdnnaekkaaGreat
set_option linter.unusedVariables false
set_option linter.unusedSimpArgs false
open Go.RowKit

set_option maxHeartbeats 1000000 in
theorem l_eqGroup (p : Int) (A A' : Option Addr) (n c c' : Nat) (l : List Int) (w : World) (B B' : Nat) (hn : n = l.length) (hl : n ≤ 1048576) (hB : B ≤ w.heap.size) (hB' : B' ≤ w.heap.size) (hs : IS w B A l) (hs' : IS w B' A' l) :
    Calls Tryz.prog 53 #[.agg #[.int .i64 p, .slice A n c], .agg #[.int .i64 p, .slice A' n c']] w (M (.bool true) w) := by
  have hb := two_alloc w (.cells #[.int .i64 p, .slice A n c] 26) (.cells #[.int .i64 p, .slice A' n c'] 26)
  obtain ⟨B1, B2⟩ := two_boxes w 26 26 #[.int .i64 p, .slice A n c] #[.int .i64 p, .slice A' n c']
  have h1 := hs.below (hb.mono hB)
  have h2 := hs'.below (hb.mono hB')
  obtain ⟨c0, c1, _, _⟩ := B1.two
  obtain ⟨d0, d1, _, _⟩ := B2.two
  have HN := Lib.hid hn
  clear hn hs hs' B1 B2
  go_enter Tryz.func53, Tryz.ntmps53
  go_wp2_with (first
    | (go_at_call 115; refine (l_eqInt64S _ _ n _ n _ l _ _ _ HN.out HN.out (by omega) h1 h2).mono ?_; rintro e w1 ⟨rfl, q, rfl⟩))
  go_ret
  exact ⟨rfl, below_drewN hb _⟩
set_option maxHeartbeats 1000000 in
theorem l_markGroup (p : Int) (A : Option Addr) (n c base : Nat) (l : List Int) (w : World) (hn : n = l.length) (hl : n ≤ 1048576) (ho : w.ownsRow base 2 1 (.slice A n c) n (ints l)) :
    Calls Tryz.prog 54 #[.agg #[.int .i64 p, .slice A n c], .int .i64 1] w (fun e w' => e = .returned (.int .i64 (1 + (n : Int))) ∧ w'.ownsRow base 2 1 (.slice A n c) n (ints (marks 1 n)) ∧ w.grownBy w' (Value.slice A n c).ownBlock) := by
  obtain ⟨c0, c1, _, _⟩ := (BK.new w 26 #[.int .i64 p, .slice A n c]).two
  have ho1 := World.ownsRow.alloc ho (.cells #[.int .i64 p, .slice A n c] 26)
  have hg0 := World.grownBy_alloc w (.cells #[.int .i64 p, .slice A n c] 26) (Value.slice A n c).ownBlock
  have HN := Lib.hid hn
  clear hn ho
  go_enter Tryz.func54, Tryz.ntmps54
  go_wp2_with (first
    | (go_at_call 116; refine (l_mark1 A n c base l _ HN.out hl ho1).mono ?_; rintro e w1 ⟨rfl, hm, hg⟩))
  go_ret
  exact ⟨rfl, hm, grown_trans hg0 hg⟩
end Go.Proofs.YtglijcdnnaekkaaGreat

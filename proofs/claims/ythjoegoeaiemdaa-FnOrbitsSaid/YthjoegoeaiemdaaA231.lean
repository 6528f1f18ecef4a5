/- Lists that are alike. -/
import Derived.Test.YthjoegoeaiemdaaA30
import Derived.BigQuiet
namespace Go.Proofs.Ythjoegoeaiemdaa
set_option linter.unusedVariables false
set_option linter.unusedSimpArgs false
open Go.RowKit

set_option maxHeartbeats 1000000 in
theorem l_likeInts (A A' : Option Addr) (n c c' : Nat) (l : List Int) (w : World) (B B' : Nat) (hn : n = l.length) (hl : n ≤ 1048576) (hs : IS w B A l) (hs' : IS w B' A' l) :
    Calls Try.prog 20 #[.slice A n c, .slice A' n c'] w (Q (.bool true) w) := by
  have HN := Lib.hid hn
  clear hn
  go_enter Try.func20, Try.ntmps20
  go_wp2_with (fail)
  go_loopw [5] (fun u wr => ∃ k : Nat, k ≤ n ∧ u = .int .i64 k ∧ DR w wr) (fun u _ => n - (intOf u).toNat)
  case atStart => exact ⟨0, Nat.zero_le _, rfl, DR.refl _⟩
  case round =>
    obtain ⟨k, hk, rfl, hdr⟩ := hrel
    by_cases hlt : k < n
    · obtain ⟨b, off, rfl, hbb, hcell⟩ := hs.at (k := k) (by rw [← HN.out]; exact hlt)
      obtain ⟨b', off', rfl, hbb', hcell'⟩ := hs'.at (k := k) (by rw [← HN.out]; exact hlt)
      have e1 := (hdr.cell _).trans (hcell k (by rw [← HN.out]; exact hlt))
      have e2 := (hdr.cell _).trans (hcell' k (by rw [← HN.out]; exact hlt))
      generalize gt l k = x at *
      have ht : (x != x) = false := by simp
      clear hcell hcell'
      go_wp2_with (go_quiet (fail))
      go_roundw
      case rel => exact ⟨k + 1, by omega, by go_num, by repeat (first | exact hdr | refine DR.step ?_ _)⟩
      case measure => simp [intOf]; omega
    · obtain rfl : k = n := by omega
      go_wp2_with (fail)
      go_ret
      exact ⟨rfl, hdr⟩
set_option maxHeartbeats 1000000 in
theorem l_likeGroups (p : Int) (A A' : Option Addr) (n c c' : Nat) (l : List Int) (w : World) (hn : n = l.length) (hl : n ≤ 1048576) (hs : IS w w.heap.size A l) (hs' : IS w w.heap.size A' l) :
    Calls Try.prog 21 #[.agg #[.int .i64 p, .slice A n c], .agg #[.int .i64 p, .slice A' n c']] w (M (.bool true) w) := by
  have hb := two_alloc w (.cells #[.int .i64 p, .slice A n c] 26) (.cells #[.int .i64 p, .slice A' n c'] 26)
  obtain ⟨B1, B2⟩ := two_boxes w 26 26 #[.int .i64 p, .slice A n c] #[.int .i64 p, .slice A' n c']
  have h1 := hs.call hb
  have h2 := hs'.call hb
  obtain ⟨c0, c1, _, _⟩ := B1.two
  obtain ⟨d0, d1, _, _⟩ := B2.two
  have HN := Lib.hid hn
  have ht : (p == p) = true := by simp
  clear hn hs hs' B1 B2
  go_enter Try.func21, Try.ntmps21
  go_wp2_with (first
    | (go_at_call 20; refine (l_likeInts _ _ n _ _ l _ _ _ HN.out hl h1 h2).mono ?_; rintro e w1 ⟨rfl, q, rfl⟩))
  go_ret
  exact ⟨rfl, below_drewN hb _⟩
end Go.Proofs.Ythjoegoeaiemdaa

/- Lists that are alike. -/
import Derived.Test.YtjfinniebijgbaaDoorA30
import Derived.BigQuiet
namespace Go.Proofs.YtjfinniebijgbaaDoor
set_option linter.unusedVariables false
set_option linter.unusedSimpArgs false
open Go.RowKit

set_option maxHeartbeats 1000000 in
theorem l_likeInts (A A' : Option Addr) (n c c' : Nat) (l : List Int) (w : World) (B B' : Nat) (hn : n = l.length) (hl : n ≤ 1048576) (hs : IS w B A l) (hs' : IS w B' A' l) :
    Calls Tryd.prog 20 #[.slice A n c, .slice A' n c'] w (Q (.bool true) w) := by
  have HN := Lib.hid hn
  clear hn
  go_enter Tryd.func20, Tryd.ntmps20
  go_wp2_with (fail)
  go_loopw [5] (fun u wr => ∃ k : Nat, k ≤ n ∧ u = .int .i64 k ∧ DR w wr) (fun u _ => n - (intOf u).toNat)
  case atStart => exact ⟨0, Nat.zero_le _, rfl, DR.refl _⟩
  case round =>
    obtain ⟨k, hk, rfl, hdr⟩ := hrel
    by_cases hlt : k < n
    · obtain ⟨b, off, rfl, hbb, hcell⟩ := hs.at (k := k) (by rw [← HN.out]; exact hlt)
      obtain ⟨b', off', rfl, hbb', hcell'⟩ := hs'.at (k := k) (by rw [← HN.out]; exact hlt)
      have e1 := (hdr.cell _).trans (hcell k (by rw [← HN.out]; exact hlt))
      have e2 := (hdr.cell _).trans (hcell' k (by rw [← HN.out]; exact hlt))
      generalize gt l k = x at *
      have ht : (x != x) = false := by simp
      clear hcell hcell'
      go_wp2_with (go_quiet (fail))
      go_roundw
      case rel => exact ⟨k + 1, by omega, by go_num, by repeat (first | exact hdr | refine DR.step ?_ _)⟩
      case measure => simp [intOf]; omega
    · obtain rfl : k = n := by omega
      go_wp2_with (fail)
      go_ret
      exact ⟨rfl, hdr⟩
end Go.Proofs.YtjfinniebijgbaaDoor

/- Lists and groups alike; draws of a group to be named, of a name, of a number; is a group transitive. -/
import Derived.Test.YtkiglhaeiomohaaGreatA193
import Derived.Test.YtkiglhaeiomohaaGreatA177
import Derived.Test.YtkiglhaeiomohaaGreatA118
import Derived.BigQuiet
namespace Go.Proofs.YtkiglhaeiomohaaGreat
set_option linter.unusedVariables false
set_option linter.unusedSimpArgs false
open Go.RowKit

set_option maxHeartbeats 1000000 in
theorem l_likeInts (A A' : Option Addr) (n c c' : Nat) (l : List Int) (w : World) (B B' : Nat) (hn : n = l.length) (hl : n ≤ 1048576) (hs : IS w B A l) (hs' : IS w B' A' l) :
    Calls Tryz.prog 79 #[.slice A n c, .slice A' n c'] w (Q (.bool true) w) := by
  have HN := Lib.hid hn
  clear hn
  go_enter Tryz.func79, Tryz.ntmps79
  go_wp2_with (fail)
  go_loopw [5] (fun u wr => ∃ k : Nat, k ≤ n ∧ u = .int .i64 k ∧ DR w wr) (fun u _ => n - (intOf u).toNat)
  case atStart => exact ⟨0, Nat.zero_le _, rfl, DR.refl _⟩
  case round =>
    obtain ⟨k, hk, rfl, hdr⟩ := hrel
    by_cases hlt : k < n
    · obtain ⟨b, off, rfl, hbb, hcell⟩ := hs.at (k := k) (by rw [← HN.out]; exact hlt)
      obtain ⟨b', off', rfl, hbb', hcell'⟩ := hs'.at (k := k) (by rw [← HN.out]; exact hlt)
      have e1 := (hdr.cell _).trans (hcell k (by rw [← HN.out]; exact hlt))
      have e2 := (hdr.cell _).trans (hcell' k (by rw [← HN.out]; exact hlt))
      generalize gt l k = x at *
      have ht : (x != x) = false := by simp
      clear hcell hcell'
      go_wp2_with (go_quiet (fail))
      go_roundw
      case rel => exact ⟨k + 1, by omega, by go_num, by repeat (first | exact hdr | refine DR.step ?_ _)⟩
      case measure => simp [intOf]; omega
    · obtain rfl : k = n := by omega
      go_wp2_with (fail)
      go_ret
      exact ⟨rfl, hdr⟩
set_option maxHeartbeats 1000000 in
theorem l_likeGroups (p : Int) (A A' : Option Addr) (n c c' : Nat) (l : List Int) (w : World) (hn : n = l.length) (hl : n ≤ 1048576) (hs : IS w w.heap.size A l) (hs' : IS w w.heap.size A' l) :
    Calls Tryz.prog 33 #[.agg #[.int .i64 p, .slice A n c], .agg #[.int .i64 p, .slice A' n c']] w (M (.bool true) w) := by
  have hb := two_alloc w (.cells #[.int .i64 p, .slice A n c] 41) (.cells #[.int .i64 p, .slice A' n c'] 41)
  obtain ⟨B1, B2⟩ := two_boxes w 41 41 #[.int .i64 p, .slice A n c] #[.int .i64 p, .slice A' n c']
  have h1 := hs.call hb
  have h2 := hs'.call hb
  obtain ⟨c0, c1, _, _⟩ := B1.two
  obtain ⟨d0, d1, _, _⟩ := B2.two
  have HN := Lib.hid hn
  have ht : (p == p) = true := by simp
  clear hn hs hs' B1 B2
  go_enter Tryz.func33, Tryz.ntmps33
  go_wp2_with (first
    | (go_at_call 79; refine (l_likeInts _ _ n _ _ l _ _ _ HN.out hl h1 h2).mono ?_; rintro e w1 ⟨rfl, q, rfl⟩))
  go_ret
  exact ⟨rfl, below_drewN hb _⟩
set_option maxHeartbeats 1000000 in
theorem i_IsTransitive (n : Nat) (A : Option Addr) (L c : Nat) (l : List Int) (w : World) (hg : grpB n l = true) (ht : (orL n l 0).length = n) (hL : L = l.length) (hl : L ≤ 1048576) (hs : IS w w.heap.size A l) :
    Calls Tryz.prog 34 #[.agg #[.int .i64 n, .slice A L c]] w (MBI true 0 w) := by
  obtain ⟨n', hn', h1, h2, h3, h4, hk⟩ := grpB_t hg
  obtain rfl : n = n' := by omega
  have B0 := BK.new w 41 #[.int .i64 (n : Int), .slice A L c]
  obtain ⟨c0, c1, _, _⟩ := B0.two
  have hb0 := (Below.refl w.heap.size w).alloc (Nat.le_refl _) (.cells #[.int .i64 (n : Int), .slice A L c] 41)
  have hs0 := hs.call hb0
  have hB0 := fun W (h : Below (w.alloc (.cells #[.int .i64 (n : Int), .slice A L c] 41)).heap.size (w.alloc (.cells #[.int .i64 (n : Int), .slice A L c] 41)) W) => (B0.below h (by simp)).two
  have hmv := i_moved0 n A L c l _ hL hl hs0
  rw [show mvC n l = 0 by unfold mvC; rw [hg]; rfl] at hmv
  have htr := fun W h => i_trans n A L c l W h1 h2 hL (by omega) (by omega) hk h
  rw [decide_eq_true ht] at htr
  clear hg ht hL hs B0 hk hn' h3 h4
  go_enter Tryz.func34, Tryz.ntmps34
  go_wp2_with (first
    | (go_at_call 80; refine hmv.mono ?_; rintro e w2 ⟨rfl, hb2⟩; obtain ⟨d0, d1, _, _⟩ := hB0 _ hb2)
    | (go_at_call 65; refine (htr _ (hs0.call hb2)).mono ?_; rintro e w3 ⟨rfl, hb3⟩))
  go_ret2
  exact ⟨rfl, bel_call (bel_call hb0 hb2) hb3⟩
set_option maxHeartbeats 1000000 in
theorem s_DrawGroupNamed (A : Option Addr) (n c : Nat) (w : World) (hn : n ≤ 4096) (hs : YB w w.heap.size A n) : Calls Tryz.prog 25 #[.slice A n c] w (fun e w' => ∃ nb : ByteArray, e = .returned (.string nb) ∧ Below w.heap.size w w') := by
  have hf := s_l01From A n c w hn hs
  have hd := fun W h => s_l24DrawName w.heap.size W h
  go_enter Tryz.func25, Tryz.ntmps25
  go_wp2_with (fail)
  refine hf.mono ?_
  rintro e w1 ⟨rfl, hs1, hb1⟩
  go_wp2_with (fail)
  refine (hd _ hs1).mono ?_
  rintro e w2 ⟨v, rfl, ⟨nb, rfl⟩, hs2, hu2⟩
  go_wp2_with (fail)
  go_ret
  exact ⟨nb, rfl, hb1.trans ((hu2.mono (B' := w.heap.size) hb1.size).below (Nat.le_refl _))⟩
set_option maxHeartbeats 1000000 in
theorem s_DrawTransitiveNames (A : Option Addr) (n c : Nat) (w : World) (hn : n ≤ 4096) (hs : YB w w.heap.size A n) : Calls Tryz.prog 30 #[.slice A n c] w (fun e w' => ∃ k : Int, e = .returned (.int .i64 k) ∧ Below w.heap.size w w') := by
  have hf := s_l01From A n c w hn hs
  have hd := fun W h => s_nextI w.heap.size 8 (by omega) W h
  go_enter Tryz.func30, Tryz.ntmps30
  go_wp2_with (fail)
  refine hf.mono ?_
  rintro e w1 ⟨rfl, hs1, hb1⟩
  go_wp2_with (fail)
  refine (hd _ hs1).mono ?_
  rintro e w2 ⟨k, rfl, hk, hs2, hu2⟩
  have hw : IntKind.i64.wrap ((k : Int) - 1) = (k : Int) - 1 := IntWalk.i64_in _ (by omega)
  go_wp2_with (fail)
  go_ret
  exact ⟨_, rfl, hb1.trans ((hu2.mono (B' := w.heap.size) hb1.size).below (Nat.le_refl _))⟩
end Go.Proofs.YtkiglhaeiomohaaGreat

/- Contracts and walks: IsPolynomial, IsSmall, IsModerate of the program; CompareRational. -/
import Derived.Test.YtcbjfdeigpdbdaaA11
namespace Go.Proofs.Ytcbjfdeigpdbdaa
set_option linter.unusedVariables false
set_option linter.unusedSimpArgs false
open Go.RowKit

set_option maxHeartbeats 400000 in
theorem i_polyC (x : Int) (w : World) : Calls Try.prog 141 #[.int .i64 x] w (Q (.bool (!inB x (-1000000) 1000000)) w) := by
  go_enter Try.func141, Try.ntmps141
  go_wp2_with (first | (go_at_call 53; refine (i_within _ _ _ _).mono ?_; rintro e w' ⟨rfl, nq, rfl⟩))
  go_ret
  exact ⟨rfl, dq1⟩
set_option maxHeartbeats 1000000 in
theorem x_i_polyC (A : Option Addr) (n c : Nat) (xs : List Int) (w : World) (B : Nat) (hn : n = xs.length) (hl : n ≤ 1048576) (hs : IS w B A xs) :
    Calls Try.prog 159 #[.slice A n c, .func (.func 141) #[] #[]] w (fun e w' => ∃ r : Int, e = .returned (.int .i64 r) ∧ (0 ≤ r ↔ allB 1000000 xs = false) ∧ DR w w') := by
  have HN := Lib.hid hn
  clear hn
  go_enter Try.func159, Try.ntmps159
  go_wp2_with (fail)
  go_loopw [8] (fun u3 wr => ∃ k : Nat, k ≤ n ∧ u3 = .int .i64 k ∧ Hid (∀ j, j < k → inB (gt xs j) (-1000000) 1000000 = true) ∧ DR w wr) (fun u3 _ => n - (intOf u3).toNat)
  case atStart => exact ⟨0, Nat.zero_le _, rfl, fun j hj => by omega, DR.refl _⟩
  case round =>
    obtain ⟨k, hk, rfl, HR, hdr⟩ := hrel
    by_cases hlt : k < n
    · obtain ⟨b, off, rfl, hbb, hcell⟩ := IS.at hs (k := k) (by rw [← HN.out]; exact hlt)
      have hc1 := (hdr.cell _).trans (hcell k (by rw [← HN.out]; exact hlt))
      clear hcell
      cases hin : inB (gt xs k) (-1000000) 1000000
      · go_wp2_with (first | (go_at_call 141; refine (i_polyC _ _).mono ?_; rintro e w' ⟨rfl, nq, rfl⟩; rw [hin]))
        go_ret
        refine ⟨_, rfl, ?_, hdr.step _⟩
        rw [allB_f (fun h => by have := h k (by rw [← HN.out]; exact hlt); rw [hin] at this; cases this)]
        simp
      · go_wp2_with (first | (go_at_call 141; refine (i_polyC _ _).mono ?_; rintro e w' ⟨rfl, nq, rfl⟩; rw [hin]))
        go_roundw
        case rel => exact ⟨k + 1, by omega, by go_num, fun j hj => by
          by_cases hjk : j = k
          · subst hjk; exact hin
          · exact HR.out j (by omega), hdr.step _⟩
        case measure => simp [intOf]; omega
    · obtain rfl : k = n := by omega
      have hall : allB 1000000 xs = true := allB_t (fun j hj => HR.out j (by rw [HN.out]; exact hj))
      have HA := Lib.hid hall
      clear hall
      go_wp2_with (fail)
      go_ret
      refine ⟨_, rfl, ?_, hdr⟩
      rw [HA.out]
      simp
set_option maxHeartbeats 400000 in
theorem c_i_polyC (A : Option Addr) (n c : Nat) (xs : List Int) (w : World) (B : Nat) (hn : n = xs.length) (hl : n ≤ 1048576) (hs : IS w B A xs) :
    Calls Try.prog 108 #[.slice A n c, .func (.func 141) #[] #[]] w (Q (.bool (!allB 1000000 xs)) w) := by
  have HN := Lib.hid hn
  clear hn
  go_enter Try.func108, Try.ntmps108
  go_wp2_with (fail)
  refine (x_i_polyC A n c xs _ B HN.out hl hs).mono ?_
  rintro e w1 ⟨r, rfl, hr, hdr⟩
  have HR := Lib.hid hr
  clear hr
  go_wp2_with (fail)
  go_ret
  refine ⟨ret_bool ?_, hdr⟩
  have hr := HR.out
  cases h : allB 1000000 xs
  · rw [h] at hr; simp at hr; simp; omega
  · rw [h] at hr; simp at hr; simp; omega
set_option maxHeartbeats 400000 in
theorem i_smallC (x : Int) (w : World) : Calls Try.prog 178 #[.int .i64 x] w (Q (.bool (!inB x (-60) 60)) w) := by
  go_enter Try.func178, Try.ntmps178
  go_wp2_with (first | (go_at_call 53; refine (i_within _ _ _ _).mono ?_; rintro e w' ⟨rfl, nq, rfl⟩))
  go_ret
  exact ⟨rfl, dq1⟩
set_option maxHeartbeats 1000000 in
theorem x_i_smallC (A : Option Addr) (n c : Nat) (xs : List Int) (w : World) (B : Nat) (hn : n = xs.length) (hl : n ≤ 1048576) (hs : IS w B A xs) :
    Calls Try.prog 159 #[.slice A n c, .func (.func 178) #[] #[]] w (fun e w' => ∃ r : Int, e = .returned (.int .i64 r) ∧ (0 ≤ r ↔ allB 60 xs = false) ∧ DR w w') := by
  have HN := Lib.hid hn
  clear hn
  go_enter Try.func159, Try.ntmps159
  go_wp2_with (fail)
  go_loopw [8] (fun u3 wr => ∃ k : Nat, k ≤ n ∧ u3 = .int .i64 k ∧ Hid (∀ j, j < k → inB (gt xs j) (-60) 60 = true) ∧ DR w wr) (fun u3 _ => n - (intOf u3).toNat)
  case atStart => exact ⟨0, Nat.zero_le _, rfl, fun j hj => by omega, DR.refl _⟩
  case round =>
    obtain ⟨k, hk, rfl, HR, hdr⟩ := hrel
    by_cases hlt : k < n
    · obtain ⟨b, off, rfl, hbb, hcell⟩ := IS.at hs (k := k) (by rw [← HN.out]; exact hlt)
      have hc1 := (hdr.cell _).trans (hcell k (by rw [← HN.out]; exact hlt))
      clear hcell
      cases hin : inB (gt xs k) (-60) 60
      · go_wp2_with (first | (go_at_call 178; refine (i_smallC _ _).mono ?_; rintro e w' ⟨rfl, nq, rfl⟩; rw [hin]))
        go_ret
        refine ⟨_, rfl, ?_, hdr.step _⟩
        rw [allB_f (fun h => by have := h k (by rw [← HN.out]; exact hlt); rw [hin] at this; cases this)]
        simp
      · go_wp2_with (first | (go_at_call 178; refine (i_smallC _ _).mono ?_; rintro e w' ⟨rfl, nq, rfl⟩; rw [hin]))
        go_roundw
        case rel => exact ⟨k + 1, by omega, by go_num, fun j hj => by
          by_cases hjk : j = k
          · subst hjk; exact hin
          · exact HR.out j (by omega), hdr.step _⟩
        case measure => simp [intOf]; omega
    · obtain rfl : k = n := by omega
      have hall : allB 60 xs = true := allB_t (fun j hj => HR.out j (by rw [HN.out]; exact hj))
      have HA := Lib.hid hall
      clear hall
      go_wp2_with (fail)
      go_ret
      refine ⟨_, rfl, ?_, hdr⟩
      rw [HA.out]
      simp
set_option maxHeartbeats 400000 in
theorem c_i_smallC (A : Option Addr) (n c : Nat) (xs : List Int) (w : World) (B : Nat) (hn : n = xs.length) (hl : n ≤ 1048576) (hs : IS w B A xs) :
    Calls Try.prog 108 #[.slice A n c, .func (.func 178) #[] #[]] w (Q (.bool (!allB 60 xs)) w) := by
  have HN := Lib.hid hn
  clear hn
  go_enter Try.func108, Try.ntmps108
  go_wp2_with (fail)
  refine (x_i_smallC A n c xs _ B HN.out hl hs).mono ?_
  rintro e w1 ⟨r, rfl, hr, hdr⟩
  have HR := Lib.hid hr
  clear hr
  go_wp2_with (fail)
  go_ret
  refine ⟨ret_bool ?_, hdr⟩
  have hr := HR.out
  cases h : allB 60 xs
  · rw [h] at hr; simp at hr; simp; omega
  · rw [h] at hr; simp at hr; simp; omega
set_option maxHeartbeats 400000 in
theorem i_modC (x : Int) (w : World) : Calls Try.prog 144 #[.int .i64 x] w (Q (.bool (!inB x (-20) 20)) w) := by
  go_enter Try.func144, Try.ntmps144
  go_wp2_with (first | (go_at_call 53; refine (i_within _ _ _ _).mono ?_; rintro e w' ⟨rfl, nq, rfl⟩))
  go_ret
  exact ⟨rfl, dq1⟩
set_option maxHeartbeats 1000000 in
theorem x_i_modC (A : Option Addr) (n c : Nat) (xs : List Int) (w : World) (B : Nat) (hn : n = xs.length) (hl : n ≤ 1048576) (hs : IS w B A xs) :
    Calls Try.prog 159 #[.slice A n c, .func (.func 144) #[] #[]] w (fun e w' => ∃ r : Int, e = .returned (.int .i64 r) ∧ (0 ≤ r ↔ allB 20 xs = false) ∧ DR w w') := by
  have HN := Lib.hid hn
  clear hn
  go_enter Try.func159, Try.ntmps159
  go_wp2_with (fail)
  go_loopw [8] (fun u3 wr => ∃ k : Nat, k ≤ n ∧ u3 = .int .i64 k ∧ Hid (∀ j, j < k → inB (gt xs j) (-20) 20 = true) ∧ DR w wr) (fun u3 _ => n - (intOf u3).toNat)
  case atStart => exact ⟨0, Nat.zero_le _, rfl, fun j hj => by omega, DR.refl _⟩
  case round =>
    obtain ⟨k, hk, rfl, HR, hdr⟩ := hrel
    by_cases hlt : k < n
    · obtain ⟨b, off, rfl, hbb, hcell⟩ := IS.at hs (k := k) (by rw [← HN.out]; exact hlt)
      have hc1 := (hdr.cell _).trans (hcell k (by rw [← HN.out]; exact hlt))
      clear hcell
      cases hin : inB (gt xs k) (-20) 20
      · go_wp2_with (first | (go_at_call 144; refine (i_modC _ _).mono ?_; rintro e w' ⟨rfl, nq, rfl⟩; rw [hin]))
        go_ret
        refine ⟨_, rfl, ?_, hdr.step _⟩
        rw [allB_f (fun h => by have := h k (by rw [← HN.out]; exact hlt); rw [hin] at this; cases this)]
        simp
      · go_wp2_with (first | (go_at_call 144; refine (i_modC _ _).mono ?_; rintro e w' ⟨rfl, nq, rfl⟩; rw [hin]))
        go_roundw
        case rel => exact ⟨k + 1, by omega, by go_num, fun j hj => by
          by_cases hjk : j = k
          · subst hjk; exact hin
          · exact HR.out j (by omega), hdr.step _⟩
        case measure => simp [intOf]; omega
    · obtain rfl : k = n := by omega
      have hall : allB 20 xs = true := allB_t (fun j hj => HR.out j (by rw [HN.out]; exact hj))
      have HA := Lib.hid hall
      clear hall
      go_wp2_with (fail)
      go_ret
      refine ⟨_, rfl, ?_, hdr⟩
      rw [HA.out]
      simp
set_option maxHeartbeats 400000 in
theorem c_i_modC (A : Option Addr) (n c : Nat) (xs : List Int) (w : World) (B : Nat) (hn : n = xs.length) (hl : n ≤ 1048576) (hs : IS w B A xs) :
    Calls Try.prog 108 #[.slice A n c, .func (.func 144) #[] #[]] w (Q (.bool (!allB 20 xs)) w) := by
  have HN := Lib.hid hn
  clear hn
  go_enter Try.func108, Try.ntmps108
  go_wp2_with (fail)
  refine (x_i_modC A n c xs _ B HN.out hl hs).mono ?_
  rintro e w1 ⟨r, rfl, hr, hdr⟩
  have HR := Lib.hid hr
  clear hr
  go_wp2_with (fail)
  go_ret
  refine ⟨ret_bool ?_, hdr⟩
  have hr := HR.out
  cases h : allB 20 xs
  · rw [h] at hr; simp at hr; simp; omega
  · rw [h] at hr; simp at hr; simp; omega
end Go.Proofs.Ytcbjfdeigpdbdaa

/- Contracts and walk: CompareRational. -/
import Derived.Test.YtflldjcnglchiaaA13
namespace Go.Proofs.Ytflldjcnglchiaa
set_option linter.unusedVariables false
set_option linter.unusedSimpArgs false
open Go.RowKit

theorem qadd {P : Program} {f : FuncId} {args : Array Value} {w : World} {a n : Nat} {v : Value} (h : Calls P f args (w.drewN (a + n)) (Q v (w.drewN (a + n)))) : Calls P f args (w.drewN (a + n)) fun e w'' => e = .returned v ∧ ∃ m, w'' = w.drewN (a + m) :=
  h.mono fun _ _ ⟨he, m, hm⟩ => ⟨he, n + m, by rw [hm, World.drewN_drewN, Nat.add_assoc]⟩
def cmpI (a b : Int) : Int := if a < b then -1 else if b < a then 1 else 0
/-- Compare from index k - 1 down. -/
def cmpDn (xs ys : List Int) : Nat → Int
  | 0 => 0
  | k + 1 => if gt xs k < gt ys k then -1 else if gt ys k < gt xs k then 1 else cmpDn xs ys k
def cmpPol (xs ys : List Int) : Int := if xs.length < ys.length then -1 else if ys.length < xs.length then 1 else cmpDn xs ys xs.length
theorem cmpDn_succ (xs ys : List Int) (k : Nat) : cmpDn xs ys (k + 1) = if gt xs k < gt ys k then -1 else if gt ys k < gt xs k then 1 else cmpDn xs ys k := rfl
set_option maxHeartbeats 400000 in
theorem x_cmpInt (a b : Int) (w : World) : Calls Try.prog 80 #[.int .i64 a, .int .i64 b] w (Q (.int .i64 (cmpI a b)) w) := by
  have hn : ∀ (x : Int) (w : World), Calls Try.prog 84 #[.int .i64 x] w (Q (.bool false) w) := by
    intro x w
    go_enter Try.func84, Try.ntmps84
    go_wp2_with (fail)
    go_ret
    exact ⟨by simp, 0, rfl⟩
  have HN := Lib.hid hn
  clear hn
  by_cases h1 : a < b
  · go_enter Try.func80, Try.ntmps80
    go_wp2_with (first | (go_at_call 84; refine (HN.out _ _).mono ?_; rintro e w' ⟨rfl, nq, rfl⟩))
    go_ret
    exact ⟨ret_int (by unfold cmpI; split <;> (try split) <;> omega), by first | exact dq1 | exact dq2⟩
  · by_cases h2 : b < a
    · go_enter Try.func80, Try.ntmps80
      go_wp2_with (first | (go_at_call 84; refine (HN.out _ _).mono ?_; rintro e w' ⟨rfl, nq, rfl⟩))
      go_ret
      exact ⟨ret_int (by unfold cmpI; split <;> (try split) <;> omega), by first | exact dq1 | exact dq2⟩
    · obtain rfl : a = b := by omega
      go_enter Try.func80, Try.ntmps80
      go_wp2_with (first | (go_at_call 84; refine (HN.out _ _).mono ?_; rintro e w' ⟨rfl, nq, rfl⟩))
      go_ret
      exact ⟨ret_int (by simp [cmpI]), by first | exact dq1 | exact dq2⟩
set_option maxHeartbeats 400000 in
theorem x_cmpInt64 (a b : Int) (w : World) : Calls Try.prog 81 #[.int .i64 a, .int .i64 b] w (Q (.int .i64 (cmpI a b)) w) := by
  have hn : ∀ (x : Int) (w : World), Calls Try.prog 85 #[.int .i64 x] w (Q (.bool false) w) := by
    intro x w
    go_enter Try.func85, Try.ntmps85
    go_wp2_with (fail)
    go_ret
    exact ⟨by simp, 0, rfl⟩
  have HN := Lib.hid hn
  clear hn
  by_cases h1 : a < b
  · go_enter Try.func81, Try.ntmps81
    go_wp2_with (first | (go_at_call 85; refine (HN.out _ _).mono ?_; rintro e w' ⟨rfl, nq, rfl⟩))
    go_ret
    exact ⟨ret_int (by unfold cmpI; split <;> (try split) <;> omega), by first | exact dq1 | exact dq2⟩
  · by_cases h2 : b < a
    · go_enter Try.func81, Try.ntmps81
      go_wp2_with (first | (go_at_call 85; refine (HN.out _ _).mono ?_; rintro e w' ⟨rfl, nq, rfl⟩))
      go_ret
      exact ⟨ret_int (by unfold cmpI; split <;> (try split) <;> omega), by first | exact dq1 | exact dq2⟩
    · obtain rfl : a = b := by omega
      go_enter Try.func81, Try.ntmps81
      go_wp2_with (first | (go_at_call 85; refine (HN.out _ _).mono ?_; rintro e w' ⟨rfl, nq, rfl⟩))
      go_ret
      exact ⟨ret_int (by simp [cmpI]), by first | exact dq1 | exact dq2⟩
set_option maxHeartbeats 1000000 in
theorem s_l09Compare (A A' : Option Addr) (n c n' c' : Nat) (xs ys : List Int) (w : World) (B B' : Nat) (hn : n = xs.length) (hn' : n' = ys.length) (hl : n ≤ 1048576) (hl' : n' ≤ 1048576) (hs : IS w B A xs) (hs' : IS w B' A' ys) :
    Calls Try.prog 66 #[.slice A n c, .slice A' n' c'] w (Q (.int .i64 (cmpPol xs ys)) w) := by
  have HN := Lib.hid hn
  have HM := Lib.hid hn'
  clear hn hn'
  by_cases h1 : n < n'
  · have HX : Hid (cmpPol xs ys = -1) := by unfold Hid cmpPol; rw [← HN.out, ← HM.out, if_pos h1]
    go_enter Try.func66, Try.ntmps66
    go_wp2_with (fail)
    go_ret
    exact ⟨ret_int HX.out.symm, ⟨0, rfl⟩⟩
  by_cases h2 : n' < n
  · have HX : Hid (cmpPol xs ys = 1) := by unfold Hid cmpPol; rw [← HN.out, ← HM.out, if_neg h1, if_pos h2]
    go_enter Try.func66, Try.ntmps66
    go_wp2_with (fail)
    go_ret
    exact ⟨ret_int HX.out.symm, ⟨0, rfl⟩⟩
  · obtain rfl : n = n' := by omega
    obtain ⟨m, rfl⟩ : ∃ m, m = n := ⟨n, rfl⟩
    have HX : Hid (cmpPol xs ys = cmpDn xs ys m) := by unfold Hid cmpPol; rw [← HN.out, ← HM.out, if_neg h1, if_neg h1]
    clear h1 h2
    go_enter Try.func66, Try.ntmps66
    go_wp2_with (fail)
    go_loopw [5] (fun u5 wr => ((∃ j : Nat, j < m ∧ u5 = .int .i64 j ∧ Hid (cmpDn xs ys (j + 1) = cmpDn xs ys m)) ∨ (u5 = .int .i64 (-1) ∧ Hid (cmpDn xs ys 0 = cmpDn xs ys m))) ∧ DR w wr) (fun u5 _ => (intOf u5 + 1).toNat)
    case atStart =>
      refine ⟨?_, by first | exact DR.refl _ | exact ⟨_, rfl⟩⟩
      rcases Nat.eq_zero_or_pos m with h0 | h0
      · subst h0; exact .inr ⟨rfl, rfl⟩
      · exact .inl ⟨m - 1, by omega, by congr 1; omega, by unfold Hid; rw [Nat.sub_add_cancel h0]⟩
    case round =>
      obtain ⟨hor, hdr⟩ := hrel
      rcases hor with ⟨j, hj, rfl, HC⟩ | ⟨rfl, HC⟩
      · obtain ⟨b, off, rfl, hbb, hcell⟩ := IS.at hs (k := j) (by rw [← HN.out]; exact hj)
        obtain ⟨b', off', rfl, hbb', hcell'⟩ := IS.at hs' (k := j) (by rw [← HM.out]; exact hj)
        have hc1 := (hdr.cell _).trans (hcell j (by rw [← HN.out]; exact hj))
        have hc2 := (hdr.cell _).trans (hcell' j (by rw [← HM.out]; exact hj))
        clear hcell hcell'
        by_cases h1 : gt xs j < gt ys j
        · have HR : Hid (cmpDn xs ys m = -1) := by unfold Hid; rw [← HC.out, cmpDn_succ, if_pos h1]
          have hne : (gt xs j != gt ys j) = true := by rw [bne_iff_ne]; omega
          have hci : Hid (cmpI (gt xs j) (gt ys j) = -1) := by unfold Hid cmpI; rw [if_pos h1]
          go_wp2_with (go_quiet (fail))
          go_ret
          exact ⟨ret_int (by first | (rw [HX.out, HR.out]; done) | (rw [HX.out, HR.out]; exact hci.out)), by repeat (first | assumption | refine DR.step ?_ _)⟩
        by_cases h2 : gt ys j < gt xs j
        · have HR : Hid (cmpDn xs ys m = 1) := by unfold Hid; rw [← HC.out, cmpDn_succ, if_neg h1, if_pos h2]
          have hne : (gt xs j != gt ys j) = true := by rw [bne_iff_ne]; omega
          have hci : Hid (cmpI (gt xs j) (gt ys j) = 1) := by unfold Hid cmpI; rw [if_neg h1, if_pos h2]
          clear h1
          go_wp2_with (go_quiet (fail))
          go_ret
          exact ⟨ret_int (by first | (rw [HX.out, HR.out]; done) | (rw [HX.out, HR.out]; exact hci.out)), by repeat (first | assumption | refine DR.step ?_ _)⟩
        · have HR : Hid (cmpDn xs ys j = cmpDn xs ys m) := by unfold Hid; rw [← HC.out, cmpDn_succ, if_neg h1, if_neg h2]
          have hne : (gt xs j != gt ys j) = false := by rw [bne_eq_false_iff_eq]; omega
          have hge : gt ys j ≤ gt xs j := by omega
          have hle : gt xs j ≤ gt ys j := by omega
          clear h1 h2
          go_wp2_with (go_quiet (fail))
          go_roundw
          case rel =>
            refine ⟨?_, by repeat (first | assumption | refine DR.step ?_ _)⟩
            rcases Nat.eq_zero_or_pos j with h0 | h0
            · subst h0; exact .inr ⟨by first | rfl | simp, HR⟩
            · exact .inl ⟨j - 1, by omega, by congr 1; omega, by unfold Hid; rw [Nat.sub_add_cancel h0]; exact HR.out⟩
          case measure => simp [intOf] <;> omega
      · go_wp2_with (fail)
        go_ret
        exact ⟨ret_int (by rw [HX.out, ← HC.out]; rfl), hdr⟩
set_option maxHeartbeats 1000000 in
theorem i_comparePolynomials (A A' : Option Addr) (n c n' c' : Nat) (xs ys : List Int) (w : World) (B B' : Nat) (hn : n = xs.length) (hn' : n' = ys.length) (hl : n ≤ 1048576) (hl' : n' ≤ 1048576) (hs : IS w B A xs) (hs' : IS w B' A' ys) :
    Calls Try.prog 68 #[.slice A n c, .slice A' n' c'] w (Q (.int .i64 (cmpPol xs ys)) w) := by
  have HN := Lib.hid hn
  have HM := Lib.hid hn'
  clear hn hn'
  by_cases h1 : n < n'
  · have HX : Hid (cmpPol xs ys = -1) := by unfold Hid cmpPol; rw [← HN.out, ← HM.out, if_pos h1]
    have hne : ((n : Int) != (n' : Int)) = true := by rw [bne_iff_ne]; omega
    have HC : Hid (cmpI (n : Int) (n' : Int) = -1) := by unfold Hid cmpI; rw [if_pos (by omega)]
    go_enter Try.func68, Try.ntmps68
    go_wp2_with (first | (go_at_call 80; refine (x_cmpInt _ _ _).mono ?_; rintro e w' ⟨rfl, nq, rfl⟩))
    go_ret
    exact ⟨ret_int (by rw [HX.out, HC.out]), by first | exact dq1 | exact dq2⟩
  by_cases h2 : n' < n
  · have HX : Hid (cmpPol xs ys = 1) := by unfold Hid cmpPol; rw [← HN.out, ← HM.out, if_neg h1, if_pos h2]
    have hne : ((n : Int) != (n' : Int)) = true := by rw [bne_iff_ne]; omega
    have HC : Hid (cmpI (n : Int) (n' : Int) = 1) := by unfold Hid cmpI; rw [if_neg (by omega), if_pos (by omega)]
    clear h1
    go_enter Try.func68, Try.ntmps68
    go_wp2_with (first | (go_at_call 80; refine (x_cmpInt _ _ _).mono ?_; rintro e w' ⟨rfl, nq, rfl⟩))
    go_ret
    exact ⟨ret_int (by rw [HX.out, HC.out]), by first | exact dq1 | exact dq2⟩
  · obtain rfl : n = n' := by omega
    obtain ⟨m, rfl⟩ : ∃ m, m = n := ⟨n, rfl⟩
    have HX : Hid (cmpPol xs ys = cmpDn xs ys m) := by unfold Hid cmpPol; rw [← HN.out, ← HM.out, if_neg h1, if_neg h1]
    clear h1 h2
    go_enter Try.func68, Try.ntmps68
    go_wp2_with (fail)
    go_loopw [5] (fun u5 wr => ((∃ j : Nat, j < m ∧ u5 = .int .i64 j ∧ Hid (cmpDn xs ys (j + 1) = cmpDn xs ys m)) ∨ (u5 = .int .i64 (-1) ∧ Hid (cmpDn xs ys 0 = cmpDn xs ys m))) ∧ DR w wr) (fun u5 _ => (intOf u5 + 1).toNat)
    case atStart =>
      refine ⟨?_, by first | exact DR.refl _ | exact ⟨_, rfl⟩⟩
      rcases Nat.eq_zero_or_pos m with h0 | h0
      · subst h0; exact .inr ⟨rfl, rfl⟩
      · exact .inl ⟨m - 1, by omega, by congr 1; omega, by unfold Hid; rw [Nat.sub_add_cancel h0]⟩
    case round =>
      obtain ⟨hor, hdr⟩ := hrel
      rcases hor with ⟨j, hj, rfl, HC⟩ | ⟨rfl, HC⟩
      · obtain ⟨b, off, rfl, hbb, hcell⟩ := IS.at hs (k := j) (by rw [← HN.out]; exact hj)
        obtain ⟨b', off', rfl, hbb', hcell'⟩ := IS.at hs' (k := j) (by rw [← HM.out]; exact hj)
        have hc1 := (hdr.cell _).trans (hcell j (by rw [← HN.out]; exact hj))
        have hc2 := (hdr.cell _).trans (hcell' j (by rw [← HM.out]; exact hj))
        clear hcell hcell'
        by_cases h1 : gt xs j < gt ys j
        · have HR : Hid (cmpDn xs ys m = -1) := by unfold Hid; rw [← HC.out, cmpDn_succ, if_pos h1]
          have hne : (gt xs j != gt ys j) = true := by rw [bne_iff_ne]; omega
          have hci : Hid (cmpI (gt xs j) (gt ys j) = -1) := by unfold Hid cmpI; rw [if_pos h1]
          go_wp2_with (first | (go_quiet ((go_at_call 81; first | exact Calls.quiet_of (x_cmpInt64 _ _ _) | exact qadd (x_cmpInt64 _ _ _)))) | go_quiet (fail))
          go_ret
          exact ⟨ret_int (by first | (rw [HX.out, HR.out]; done) | (rw [HX.out, HR.out]; exact hci.out)), by repeat (first | assumption | refine DR.step ?_ _)⟩
        by_cases h2 : gt ys j < gt xs j
        · have HR : Hid (cmpDn xs ys m = 1) := by unfold Hid; rw [← HC.out, cmpDn_succ, if_neg h1, if_pos h2]
          have hne : (gt xs j != gt ys j) = true := by rw [bne_iff_ne]; omega
          have hci : Hid (cmpI (gt xs j) (gt ys j) = 1) := by unfold Hid cmpI; rw [if_neg h1, if_pos h2]
          clear h1
          go_wp2_with (first | (go_quiet ((go_at_call 81; first | exact Calls.quiet_of (x_cmpInt64 _ _ _) | exact qadd (x_cmpInt64 _ _ _)))) | go_quiet (fail))
          go_ret
          exact ⟨ret_int (by first | (rw [HX.out, HR.out]; done) | (rw [HX.out, HR.out]; exact hci.out)), by repeat (first | assumption | refine DR.step ?_ _)⟩
        · have HR : Hid (cmpDn xs ys j = cmpDn xs ys m) := by unfold Hid; rw [← HC.out, cmpDn_succ, if_neg h1, if_neg h2]
          have hne : (gt xs j != gt ys j) = false := by rw [bne_eq_false_iff_eq]; omega
          have hge : gt ys j ≤ gt xs j := by omega
          have hle : gt xs j ≤ gt ys j := by omega
          clear h1 h2
          go_wp2_with (go_quiet (fail))
          go_roundw
          case rel =>
            refine ⟨?_, by repeat (first | assumption | refine DR.step ?_ _)⟩
            rcases Nat.eq_zero_or_pos j with h0 | h0
            · subst h0; exact .inr ⟨by first | rfl | simp, HR⟩
            · exact .inl ⟨j - 1, by omega, by congr 1; omega, by unfold Hid; rw [Nat.sub_add_cancel h0]; exact HR.out⟩
          case measure => simp [intOf] <;> omega
      · go_wp2_with (fail)
        go_ret
        exact ⟨ret_int (by rw [HX.out, ← HC.out]; rfl), hdr⟩
noncomputable def crV (xs ys : List Int) : Int := if polyB xs && polyB ys then cmpPol xs ys else 0
noncomputable def crC (xs ys : List Int) : Int := if polyB xs && polyB ys then 0 else 1
set_option maxHeartbeats 1000000 in
theorem s_CompareRational (A A' : Option Addr) (n c n' c' : Nat) (xs ys : List Int) (w : World) (B B' : Nat) (hn : n = xs.length) (hn' : n' = ys.length) (hl : n ≤ 1048576) (hl' : n' ≤ 1048576) (hs : IS w B A xs) (hs' : IS w B' A' ys) :
    Calls Try.prog 37 #[.slice A n c, .slice A' n' c'] w (Q (.tuple #[.int .i64 (crV xs ys), .int .i64 (crC xs ys)]) w) := by
  have HN := Lib.hid hn
  have HM := Lib.hid hn'
  clear hn hn'
  cases h1 : polyB xs
  · go_enter Try.func37, Try.ntmps37
    go_wp2_with (first | (go_at_call 65; refine (s_IsPolynomial _ _ _ xs _ B HN.out hl hs).mono ?_; rintro e w' ⟨rfl, nq, rfl⟩; rw [h1]))
    go_ret2
    exact ⟨ret_ii (by simp [crV, h1]) (by simp [crC, h1]), by first | exact dq1 | exact dq2⟩
  cases h2 : polyB ys
  · go_enter Try.func37, Try.ntmps37
    go_wp2_with fail
    refine (s_IsPolynomial _ _ _ xs _ B HN.out hl hs).mono ?_; rintro e w' ⟨rfl, nq, rfl⟩; rw [h1]
    go_wp2_with fail
    refine (s_IsPolynomial _ _ _ ys _ B' HM.out hl' (hs'.drewN _)).mono ?_; rintro e w' ⟨rfl, nq2, rfl⟩; rw [h2]
    go_wp2_with fail
    go_ret2
    exact ⟨ret_ii (by simp [crV, h1, h2]) (by simp [crC, h1, h2]), by first | exact dq1 | exact dq2⟩
  go_enter Try.func37, Try.ntmps37
  go_wp2_with fail
  refine (s_IsPolynomial _ _ _ xs _ B HN.out hl hs).mono ?_; rintro e w' ⟨rfl, nq, rfl⟩; rw [h1]
  go_wp2_with fail
  refine (s_IsPolynomial _ _ _ ys _ B' HM.out hl' (hs'.drewN _)).mono ?_; rintro e w' ⟨rfl, nq2, rfl⟩; rw [h2]
  go_wp2_with fail
  refine (s_l09Compare _ _ _ _ _ _ xs ys _ B B' HN.out HM.out hl hl' (by first | exact (hs.drewN _) | exact ((hs.drewN _).drewN _)) (by first | exact (hs'.drewN _) | exact ((hs'.drewN _).drewN _))).mono ?_; rintro e w' ⟨rfl, nq3, rfl⟩
  go_wp2_with fail
  go_ret2
  exact ⟨ret_ii (by simp [crV, h1, h2]) (by simp [crC, h1, h2]), by first | exact dq1 | exact dq2⟩
set_option maxHeartbeats 1000000 in
theorem i_CompareRational (A A' : Option Addr) (n c n' c' : Nat) (xs ys : List Int) (w : World) (B B' : Nat) (hn : n = xs.length) (hn' : n' = ys.length) (hl : n ≤ 1048576) (hl' : n' ≤ 1048576) (hs : IS w B A xs) (hs' : IS w B' A' ys) :
    Calls Try.prog 38 #[.slice A n c, .slice A' n' c'] w (Q (.tuple #[.int .i64 (crV xs ys), .int .i64 (crC xs ys)]) w) := by
  have HN := Lib.hid hn
  have HM := Lib.hid hn'
  clear hn hn'
  cases h1 : polyB xs
  · go_enter Try.func38, Try.ntmps38
    go_wp2_with (first | (go_at_call 67; refine (i_IsPolynomial _ _ _ xs _ B HN.out hl hs).mono ?_; rintro e w' ⟨rfl, nq, rfl⟩; rw [h1]))
    go_ret2
    exact ⟨ret_ii (by simp [crV, h1]) (by simp [crC, h1]), by first | exact dq1 | exact dq2⟩
  cases h2 : polyB ys
  · go_enter Try.func38, Try.ntmps38
    go_wp2_with fail
    refine (i_IsPolynomial _ _ _ xs _ B HN.out hl hs).mono ?_; rintro e w' ⟨rfl, nq, rfl⟩; rw [h1]
    go_wp2_with fail
    refine (i_IsPolynomial _ _ _ ys _ B' HM.out hl' (hs'.drewN _)).mono ?_; rintro e w' ⟨rfl, nq2, rfl⟩; rw [h2]
    go_wp2_with fail
    go_ret2
    exact ⟨ret_ii (by simp [crV, h1, h2]) (by simp [crC, h1, h2]), by first | exact dq1 | exact dq2⟩
  go_enter Try.func38, Try.ntmps38
  go_wp2_with fail
  refine (i_IsPolynomial _ _ _ xs _ B HN.out hl hs).mono ?_; rintro e w' ⟨rfl, nq, rfl⟩; rw [h1]
  go_wp2_with fail
  refine (i_IsPolynomial _ _ _ ys _ B' HM.out hl' (hs'.drewN _)).mono ?_; rintro e w' ⟨rfl, nq2, rfl⟩; rw [h2]
  go_wp2_with fail
  refine (i_comparePolynomials _ _ _ _ _ _ xs ys _ B B' HN.out HM.out hl hl' (by first | exact (hs.drewN _) | exact ((hs.drewN _).drewN _)) (by first | exact (hs'.drewN _) | exact ((hs'.drewN _).drewN _))).mono ?_; rintro e w' ⟨rfl, nq3, rfl⟩
  go_wp2_with fail
  go_ret2
  exact ⟨ret_ii (by simp [crV, h1, h2]) (by simp [crC, h1, h2]), by first | exact dq1 | exact dq2⟩
set_option maxHeartbeats 2000000 in
theorem law_CompareRational (A : Option Addr) (n c : Nat) (xs : List Int) (A' : Option Addr) (n' c' : Nat) (ys : List Int) (w : World) (hn : n = xs.length) (hc : n ≤ c) (hm : c ≤ maxLen) (hr : R64 xs) (hs : IS w w.heap.size A xs) (hn' : n' = ys.length) (hc' : n' ≤ c') (hm' : c' ≤ maxLen) (hr' : R64 ys) (hs' : IS w w.heap.size A' ys) :
    Calls Try.prog 13 #[.slice A n c, .slice A' n' c'] w (M (.bool true) w) := by
  unfold maxLen at hm hm'
  have HN := Lib.hid hn
  have HM := Lib.hid hn'
  clear hn hn' hr hr'
  by_cases hbig : 1048576 < n
  · go_enter Try.func13, Try.ntmps13
    go_wp2_with (fail)
    go_ret
    exact ⟨rfl, Below.refl _ _⟩
  by_cases hbig' : 1048576 < n'
  · have hx : n ≤ 1048576 := by omega
    clear hbig
    go_enter Try.func13, Try.ntmps13
    go_wp2_with (fail)
    go_ret
    exact ⟨rfl, Below.refl _ _⟩
  have hl : n ≤ 1048576 := by omega
  have hl' : n' ≤ 1048576 := by omega
  clear hbig hbig'
  go_enter Try.func13, Try.ntmps13
  go_wp2_with (fail)
  refine (l_toInt64S A n c xs _ HN.out hl hs).mono ?_
  rintro e w1 ⟨g1, rfl, hN1, hb1⟩
  have hs'1 := hs'.call hb1
  go_wp2_with (fail)
  refine (l_toInt64S A' n' c' ys _ HM.out hl' hs'1).mono ?_
  rintro e w2 ⟨g2, rfl, hN2, hb2⟩
  have hN12 := hN1.below hb2 hN1.lt
  have b2 := bel_call hb1 hb2
  go_wp2_with (fail)
  refine (s_CompareRational _ _ _ _ _ _ xs ys _ w2.heap.size w2.heap.size HN.out HM.out hl hl' hN12.is hN2.is).mono ?_
  rintro e w3 ⟨rfl, nq, rfl⟩
  have hs3 := (hs.call b2).drewN nq
  have hs'3 := (hs'.call b2).drewN nq
  have b3 := below_drewN b2 nq
  go_wp2_with (fail)
  refine (l_toInt64S A n c xs _ HN.out hl hs3).mono ?_
  rintro e w4 ⟨g4, rfl, hN4, hb4⟩
  have b4 := bel_call b3 hb4
  go_wp2_with (fail)
  refine (l_toInt64S A' n' c' ys _ HM.out hl' (hs'.call b4)).mono ?_
  rintro e w5 ⟨g5, rfl, hN5, hb5⟩
  have hN45 := hN4.below hb5 hN4.lt
  have b5 := bel_call b4 hb5
  go_wp2_with (fail)
  refine (i_CompareRational _ _ _ _ _ _ xs ys _ w5.heap.size w5.heap.size HN.out HM.out hl hl' hN45.is hN5.is).mono ?_
  rintro e w6 ⟨rfl, nq6, rfl⟩
  have b6 := below_drewN b5 nq6
  go_wp2_with (fail)
  refine (l_toInt64S A n c xs _ HN.out hl (hs.call b6)).mono ?_
  rintro e w7 ⟨g7, rfl, hN7, hb7⟩
  have b7 := bel_call b6 hb7
  have hN47 := (hN45.drewN nq6).below hb7 hN45.lt
  have hN57 := (hN5.drewN nq6).below hb7 hN5.lt
  go_wp2_with (fail)
  refine (l_eqInt64S _ _ n _ n _ xs _ w7.heap.size w7.heap.size HN.out HN.out (by omega) hN47.is hN7.is).mono ?_
  rintro e w8 ⟨rfl, nq8, rfl⟩
  have b8 := below_drewN b7 nq8
  go_wp2_with (fail)
  refine (l_toInt64S A' n' c' ys _ HM.out hl' (hs'.call b8)).mono ?_
  rintro e w9 ⟨g9, rfl, hN9, hb9⟩
  have b9 := bel_call b8 hb9
  have hN59 := (hN57.drewN nq8).below hb9 hN57.lt
  go_wp2_with (fail)
  refine (l_eqInt64S _ _ n' _ n' _ ys _ w9.heap.size w9.heap.size HM.out HM.out (by omega) hN59.is hN9.is).mono ?_
  rintro e w10 ⟨rfl, nq10, rfl⟩
  go_wp2_with (fail)
  go_ret
  exact ⟨rfl, below_drewN b9 nq10⟩
end Go.Proofs.Ytflldjcnglchiaa

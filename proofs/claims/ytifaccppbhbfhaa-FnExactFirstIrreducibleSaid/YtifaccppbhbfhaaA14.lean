/- Contracts and walk: CompareRational. -/
import Derived.Test.YtifaccppbhbfhaaA13
namespace Go.Proofs.Ytifaccppbhbfhaa
set_option linter.unusedVariables false
set_option linter.unusedSimpArgs false
open Go.RowKit

theorem qadd {P : Program} {f : FuncId} {args : Array Value} {w : World} {a n : Nat} {v : Value} (h : Calls P f args (w.drewN (a + n)) (Q v (w.drewN (a + n)))) : Calls P f args (w.drewN (a + n)) fun e w'' => e = .returned v ∧ ∃ m, w'' = w.drewN (a + m) :=
  h.mono fun _ _ ⟨he, m, hm⟩ => ⟨he, n + m, by rw [hm, World.drewN_drewN, Nat.add_assoc]⟩
def cmpI (a b : Int) : Int := if a < b then -1 else if b < a then 1 else 0
/-- Compare from index k - 1 down. -/
def cmpDn (xs ys : List Int) : Nat → Int
  | 0 => 0
  | k + 1 => if gt xs k < gt ys k then -1 else if gt ys k < gt xs k then 1 else cmpDn xs ys k
def cmpPol (xs ys : List Int) : Int := if xs.length < ys.length then -1 else if ys.length < xs.length then 1 else cmpDn xs ys xs.length
theorem cmpDn_succ (xs ys : List Int) (k : Nat) : cmpDn xs ys (k + 1) = if gt xs k < gt ys k then -1 else if gt ys k < gt xs k then 1 else cmpDn xs ys k := rfl
set_option maxHeartbeats 400000 in
theorem x_cmpInt (a b : Int) (w : World) : Calls Try.prog 80 #[.int .i64 a, .int .i64 b] w (Q (.int .i64 (cmpI a b)) w) := by
  have hn : ∀ (x : Int) (w : World), Calls Try.prog 103 #[.int .i64 x] w (Q (.bool false) w) := by
    intro x w
    go_enter Try.func103, Try.ntmps103
    go_wp2_with (fail)
    go_ret
    exact ⟨by simp, 0, rfl⟩
  have HN := Lib.hid hn
  clear hn
  by_cases h1 : a < b
  · go_enter Try.func80, Try.ntmps80
    go_wp2_with (first | (go_at_call 103; refine (HN.out _ _).mono ?_; rintro e w' ⟨rfl, nq, rfl⟩))
    go_ret
    exact ⟨ret_int (by unfold cmpI; split <;> (try split) <;> omega), by first | exact dq1 | exact dq2⟩
  · by_cases h2 : b < a
    · go_enter Try.func80, Try.ntmps80
      go_wp2_with (first | (go_at_call 103; refine (HN.out _ _).mono ?_; rintro e w' ⟨rfl, nq, rfl⟩))
      go_ret
      exact ⟨ret_int (by unfold cmpI; split <;> (try split) <;> omega), by first | exact dq1 | exact dq2⟩
    · obtain rfl : a = b := by omega
      go_enter Try.func80, Try.ntmps80
      go_wp2_with (first | (go_at_call 103; refine (HN.out _ _).mono ?_; rintro e w' ⟨rfl, nq, rfl⟩))
      go_ret
      exact ⟨ret_int (by simp [cmpI]), by first | exact dq1 | exact dq2⟩
set_option maxHeartbeats 400000 in
theorem x_cmpInt64 (a b : Int) (w : World) : Calls Try.prog 81 #[.int .i64 a, .int .i64 b] w (Q (.int .i64 (cmpI a b)) w) := by
  have hn : ∀ (x : Int) (w : World), Calls Try.prog 104 #[.int .i64 x] w (Q (.bool false) w) := by
    intro x w
    go_enter Try.func104, Try.ntmps104
    go_wp2_with (fail)
    go_ret
    exact ⟨by simp, 0, rfl⟩
  have HN := Lib.hid hn
  clear hn
  by_cases h1 : a < b
  · go_enter Try.func81, Try.ntmps81
    go_wp2_with (first | (go_at_call 104; refine (HN.out _ _).mono ?_; rintro e w' ⟨rfl, nq, rfl⟩))
    go_ret
    exact ⟨ret_int (by unfold cmpI; split <;> (try split) <;> omega), by first | exact dq1 | exact dq2⟩
  · by_cases h2 : b < a
    · go_enter Try.func81, Try.ntmps81
      go_wp2_with (first | (go_at_call 104; refine (HN.out _ _).mono ?_; rintro e w' ⟨rfl, nq, rfl⟩))
      go_ret
      exact ⟨ret_int (by unfold cmpI; split <;> (try split) <;> omega), by first | exact dq1 | exact dq2⟩
    · obtain rfl : a = b := by omega
      go_enter Try.func81, Try.ntmps81
      go_wp2_with (first | (go_at_call 104; refine (HN.out _ _).mono ?_; rintro e w' ⟨rfl, nq, rfl⟩))
      go_ret
      exact ⟨ret_int (by simp [cmpI]), by first | exact dq1 | exact dq2⟩
set_option maxHeartbeats 1000000 in
theorem s_l09Compare (A A' : Option Addr) (n c n' c' : Nat) (xs ys : List Int) (w : World) (B B' : Nat) (hn : n = xs.length) (hn' : n' = ys.length) (hl : n ≤ 1048576) (hl' : n' ≤ 1048576) (hs : IS w B A xs) (hs' : IS w B' A' ys) :
    Calls Try.prog 86 #[.slice A n c, .slice A' n' c'] w (Q (.int .i64 (cmpPol xs ys)) w) := by
  have HN := Lib.hid hn
  have HM := Lib.hid hn'
  clear hn hn'
  by_cases h1 : n < n'
  · have HX : Hid (cmpPol xs ys = -1) := by unfold Hid cmpPol; rw [← HN.out, ← HM.out, if_pos h1]
    go_enter Try.func86, Try.ntmps86
    go_wp2_with (fail)
    go_ret
    exact ⟨ret_int HX.out.symm, ⟨0, rfl⟩⟩
  by_cases h2 : n' < n
  · have HX : Hid (cmpPol xs ys = 1) := by unfold Hid cmpPol; rw [← HN.out, ← HM.out, if_neg h1, if_pos h2]
    go_enter Try.func86, Try.ntmps86
    go_wp2_with (fail)
    go_ret
    exact ⟨ret_int HX.out.symm, ⟨0, rfl⟩⟩
  · obtain rfl : n = n' := by omega
    obtain ⟨m, rfl⟩ : ∃ m, m = n := ⟨n, rfl⟩
    have HX : Hid (cmpPol xs ys = cmpDn xs ys m) := by unfold Hid cmpPol; rw [← HN.out, ← HM.out, if_neg h1, if_neg h1]
    clear h1 h2
    go_enter Try.func86, Try.ntmps86
    go_wp2_with (fail)
    go_loopw [5] (fun u5 wr => ((∃ j : Nat, j < m ∧ u5 = .int .i64 j ∧ Hid (cmpDn xs ys (j + 1) = cmpDn xs ys m)) ∨ (u5 = .int .i64 (-1) ∧ Hid (cmpDn xs ys 0 = cmpDn xs ys m))) ∧ DR w wr) (fun u5 _ => (intOf u5 + 1).toNat)
    case atStart =>
      refine ⟨?_, by first | exact DR.refl _ | exact ⟨_, rfl⟩⟩
      rcases Nat.eq_zero_or_pos m with h0 | h0
      · subst h0; exact .inr ⟨rfl, rfl⟩
      · exact .inl ⟨m - 1, by omega, by congr 1; omega, by unfold Hid; rw [Nat.sub_add_cancel h0]⟩
    case round =>
      obtain ⟨hor, hdr⟩ := hrel
      rcases hor with ⟨j, hj, rfl, HC⟩ | ⟨rfl, HC⟩
      · obtain ⟨b, off, rfl, hbb, hcell⟩ := IS.at hs (k := j) (by rw [← HN.out]; exact hj)
        obtain ⟨b', off', rfl, hbb', hcell'⟩ := IS.at hs' (k := j) (by rw [← HM.out]; exact hj)
        have hc1 := (hdr.cell _).trans (hcell j (by rw [← HN.out]; exact hj))
        have hc2 := (hdr.cell _).trans (hcell' j (by rw [← HM.out]; exact hj))
        clear hcell hcell'
        by_cases h1 : gt xs j < gt ys j
        · have HR : Hid (cmpDn xs ys m = -1) := by unfold Hid; rw [← HC.out, cmpDn_succ, if_pos h1]
          have hne : (gt xs j != gt ys j) = true := by rw [bne_iff_ne]; omega
          have hci : Hid (cmpI (gt xs j) (gt ys j) = -1) := by unfold Hid cmpI; rw [if_pos h1]
          go_wp2_with (go_quiet (fail))
          go_ret
          exact ⟨ret_int (by first | (rw [HX.out, HR.out]; done) | (rw [HX.out, HR.out]; exact hci.out)), by repeat (first | assumption | refine DR.step ?_ _)⟩
        by_cases h2 : gt ys j < gt xs j
        · have HR : Hid (cmpDn xs ys m = 1) := by unfold Hid; rw [← HC.out, cmpDn_succ, if_neg h1, if_pos h2]
          have hne : (gt xs j != gt ys j) = true := by rw [bne_iff_ne]; omega
          have hci : Hid (cmpI (gt xs j) (gt ys j) = 1) := by unfold Hid cmpI; rw [if_neg h1, if_pos h2]
          clear h1
          go_wp2_with (go_quiet (fail))
          go_ret
          exact ⟨ret_int (by first | (rw [HX.out, HR.out]; done) | (rw [HX.out, HR.out]; exact hci.out)), by repeat (first | assumption | refine DR.step ?_ _)⟩
        · have HR : Hid (cmpDn xs ys j = cmpDn xs ys m) := by unfold Hid; rw [← HC.out, cmpDn_succ, if_neg h1, if_neg h2]
          have hne : (gt xs j != gt ys j) = false := by rw [bne_eq_false_iff_eq]; omega
          have hge : gt ys j ≤ gt xs j := by omega
          have hle : gt xs j ≤ gt ys j := by omega
          clear h1 h2
          go_wp2_with (go_quiet (fail))
          go_roundw
          case rel =>
            refine ⟨?_, by repeat (first | assumption | refine DR.step ?_ _)⟩
            rcases Nat.eq_zero_or_pos j with h0 | h0
            · subst h0; exact .inr ⟨by first | rfl | simp, HR⟩
            · exact .inl ⟨j - 1, by omega, by congr 1; omega, by unfold Hid; rw [Nat.sub_add_cancel h0]; exact HR.out⟩
          case measure => simp [intOf] <;> omega
      · go_wp2_with (fail)
        go_ret
        exact ⟨ret_int (by rw [HX.out, ← HC.out]; rfl), hdr⟩
set_option maxHeartbeats 1000000 in
theorem i_comparePolynomials (A A' : Option Addr) (n c n' c' : Nat) (xs ys : List Int) (w : World) (B B' : Nat) (hn : n = xs.length) (hn' : n' = ys.length) (hl : n ≤ 1048576) (hl' : n' ≤ 1048576) (hs : IS w B A xs) (hs' : IS w B' A' ys) :
    Calls Try.prog 56 #[.slice A n c, .slice A' n' c'] w (Q (.int .i64 (cmpPol xs ys)) w) := by
  have HN := Lib.hid hn
  have HM := Lib.hid hn'
  clear hn hn'
  by_cases h1 : n < n'
  · have HX : Hid (cmpPol xs ys = -1) := by unfold Hid cmpPol; rw [← HN.out, ← HM.out, if_pos h1]
    have hne : ((n : Int) != (n' : Int)) = true := by rw [bne_iff_ne]; omega
    have HC : Hid (cmpI (n : Int) (n' : Int) = -1) := by unfold Hid cmpI; rw [if_pos (by omega)]
    go_enter Try.func56, Try.ntmps56
    go_wp2_with (first | (go_at_call 80; refine (x_cmpInt _ _ _).mono ?_; rintro e w' ⟨rfl, nq, rfl⟩))
    go_ret
    exact ⟨ret_int (by rw [HX.out, HC.out]), by first | exact dq1 | exact dq2⟩
  by_cases h2 : n' < n
  · have HX : Hid (cmpPol xs ys = 1) := by unfold Hid cmpPol; rw [← HN.out, ← HM.out, if_neg h1, if_pos h2]
    have hne : ((n : Int) != (n' : Int)) = true := by rw [bne_iff_ne]; omega
    have HC : Hid (cmpI (n : Int) (n' : Int) = 1) := by unfold Hid cmpI; rw [if_neg (by omega), if_pos (by omega)]
    clear h1
    go_enter Try.func56, Try.ntmps56
    go_wp2_with (first | (go_at_call 80; refine (x_cmpInt _ _ _).mono ?_; rintro e w' ⟨rfl, nq, rfl⟩))
    go_ret
    exact ⟨ret_int (by rw [HX.out, HC.out]), by first | exact dq1 | exact dq2⟩
  · obtain rfl : n = n' := by omega
    obtain ⟨m, rfl⟩ : ∃ m, m = n := ⟨n, rfl⟩
    have HX : Hid (cmpPol xs ys = cmpDn xs ys m) := by unfold Hid cmpPol; rw [← HN.out, ← HM.out, if_neg h1, if_neg h1]
    clear h1 h2
    go_enter Try.func56, Try.ntmps56
    go_wp2_with (fail)
    go_loopw [5] (fun u5 wr => ((∃ j : Nat, j < m ∧ u5 = .int .i64 j ∧ Hid (cmpDn xs ys (j + 1) = cmpDn xs ys m)) ∨ (u5 = .int .i64 (-1) ∧ Hid (cmpDn xs ys 0 = cmpDn xs ys m))) ∧ DR w wr) (fun u5 _ => (intOf u5 + 1).toNat)
    case atStart =>
      refine ⟨?_, by first | exact DR.refl _ | exact ⟨_, rfl⟩⟩
      rcases Nat.eq_zero_or_pos m with h0 | h0
      · subst h0; exact .inr ⟨rfl, rfl⟩
      · exact .inl ⟨m - 1, by omega, by congr 1; omega, by unfold Hid; rw [Nat.sub_add_cancel h0]⟩
    case round =>
      obtain ⟨hor, hdr⟩ := hrel
      rcases hor with ⟨j, hj, rfl, HC⟩ | ⟨rfl, HC⟩
      · obtain ⟨b, off, rfl, hbb, hcell⟩ := IS.at hs (k := j) (by rw [← HN.out]; exact hj)
        obtain ⟨b', off', rfl, hbb', hcell'⟩ := IS.at hs' (k := j) (by rw [← HM.out]; exact hj)
        have hc1 := (hdr.cell _).trans (hcell j (by rw [← HN.out]; exact hj))
        have hc2 := (hdr.cell _).trans (hcell' j (by rw [← HM.out]; exact hj))
        clear hcell hcell'
        by_cases h1 : gt xs j < gt ys j
        · have HR : Hid (cmpDn xs ys m = -1) := by unfold Hid; rw [← HC.out, cmpDn_succ, if_pos h1]
          have hne : (gt xs j != gt ys j) = true := by rw [bne_iff_ne]; omega
          have hci : Hid (cmpI (gt xs j) (gt ys j) = -1) := by unfold Hid cmpI; rw [if_pos h1]
          go_wp2_with (first | (go_quiet ((go_at_call 81; first | exact Calls.quiet_of (x_cmpInt64 _ _ _) | exact qadd (x_cmpInt64 _ _ _)))) | go_quiet (fail))
          go_ret
          exact ⟨ret_int (by first | (rw [HX.out, HR.out]; done) | (rw [HX.out, HR.out]; exact hci.out)), by repeat (first | assumption | refine DR.step ?_ _)⟩
        by_cases h2 : gt ys j < gt xs j
        · have HR : Hid (cmpDn xs ys m = 1) := by unfold Hid; rw [← HC.out, cmpDn_succ, if_neg h1, if_pos h2]
          have hne : (gt xs j != gt ys j) = true := by rw [bne_iff_ne]; omega
          have hci : Hid (cmpI (gt xs j) (gt ys j) = 1) := by unfold Hid cmpI; rw [if_neg h1, if_pos h2]
          clear h1
          go_wp2_with (first | (go_quiet ((go_at_call 81; first | exact Calls.quiet_of (x_cmpInt64 _ _ _) | exact qadd (x_cmpInt64 _ _ _)))) | go_quiet (fail))
          go_ret
          exact ⟨ret_int (by first | (rw [HX.out, HR.out]; done) | (rw [HX.out, HR.out]; exact hci.out)), by repeat (first | assumption | refine DR.step ?_ _)⟩
        · have HR : Hid (cmpDn xs ys j = cmpDn xs ys m) := by unfold Hid; rw [← HC.out, cmpDn_succ, if_neg h1, if_neg h2]
          have hne : (gt xs j != gt ys j) = false := by rw [bne_eq_false_iff_eq]; omega
          have hge : gt ys j ≤ gt xs j := by omega
          have hle : gt xs j ≤ gt ys j := by omega
          clear h1 h2
          go_wp2_with (go_quiet (fail))
          go_roundw
          case rel =>
            refine ⟨?_, by repeat (first | assumption | refine DR.step ?_ _)⟩
            rcases Nat.eq_zero_or_pos j with h0 | h0
            · subst h0; exact .inr ⟨by first | rfl | simp, HR⟩
            · exact .inl ⟨j - 1, by omega, by congr 1; omega, by unfold Hid; rw [Nat.sub_add_cancel h0]; exact HR.out⟩
          case measure => simp [intOf] <;> omega
      · go_wp2_with (fail)
        go_ret
        exact ⟨ret_int (by rw [HX.out, ← HC.out]; rfl), hdr⟩
noncomputable def crV (xs ys : List Int) : Int := if polyB xs && polyB ys then cmpPol xs ys else 0
noncomputable def crC (xs ys : List Int) : Int := if polyB xs && polyB ys then 0 else 1
end Go.Proofs.Ytifaccppbhbfhaa

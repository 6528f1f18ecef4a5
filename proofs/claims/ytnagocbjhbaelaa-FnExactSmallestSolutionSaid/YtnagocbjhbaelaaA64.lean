/- Walks: SolveSystem, SmallestSolution. -/
import Derived.Test.YtnagocbjhbaelaaA56
import Derived.Test.YtnagocbjhbaelaaA60
namespace Go.Proofs.Ytnagocbjhbaelaa
set_option linter.unusedVariables false
set_option linter.unusedSimpArgs false
open Go.RowKit

noncomputable def soC (l : List Z3) : Int := if sysB l then 0 else 1
noncomputable def soN (l : List Z3) : Int := if sysB l then slv l l.length else 0
noncomputable def soP (l : List Z3) : Int := if sysB l then (pr l l.length : Nat) else 0
noncomputable def smN (l : List Z3) : Int := if sysB l then (if (pr l l.length : Int) < 2 * slv l l.length then slv l l.length - (pr l l.length : Int) else slv l l.length) else 0
theorem s_l31SolveM (A : Option Addr) (n c : Nat) (l : List Z3) (w : World) (hn : n = l.length) (hsys : SysTo l l.length) (hl : n ≤ 1048576) (hs : IT w w.heap.size A l) :
    Calls Try.prog 32 #[.slice A n c] w (M (.tuple #[.int .i64 (slv l l.length), .int .i64 (pr l l.length : Nat)]) w) :=
  (s_l31Solve A n c l w hn hsys hl hs).mono fun _ _ ⟨h1, _, h2⟩ => ⟨h1, by rw [h2]; exact below_drewN (Below.refl _ _) _⟩
set_option maxHeartbeats 1000000 in
theorem s_SolveSystem (A : Option Addr) (n c : Nat) (l : List Z3) (w : World) (hn : n = l.length) (hl : n ≤ 1048576) (hcn : n ≤ c) (hcm : c ≤ 9223372036854775807) (hr : R3 l) (hs : IT w w.heap.size A l) :
    Calls Try.prog 8 #[.slice A n c] w (M (.tuple #[.int .i64 (soN l), .int .i64 (soP l), .int .i64 (soC l)]) w) := by
  have HN := Lib.hid hn
  clear hn
  cases h1 : sysB l
  · have HC : Hid (soC l = 1 ∧ soN l = 0 ∧ soP l = 0) := by unfold Hid soC soN soP; rw [h1]; exact ⟨rfl, rfl, rfl⟩
    go_enter Try.func8, Try.ntmps8
    go_wp2_with (fail)
    refine (s_l31System A n c l _ HN.out hl hr hs).mono ?_
    rw [h1]
    rintro e w1 ⟨rfl, hb1⟩
    go_wp2_with (fail)
    go_ret3
    exact ⟨ret_iii HC.out.2.1.symm HC.out.2.2.symm HC.out.1.symm, hb1⟩
  have hp := sysB_p h1
  have HC : Hid (soC l = 0 ∧ soN l = slv l l.length ∧ soP l = (pr l l.length : Nat)) := by unfold Hid soC soN soP; rw [h1]; exact ⟨rfl, rfl, rfl⟩
  have HP := Lib.hid hp
  generalize hV : slv l l.length = V at *
  generalize hPR : pr l l.length = PP at *
  have HV := Lib.hid hV
  have HPR := Lib.hid hPR
  clear hV hPR hp
  go_enter Try.func8, Try.ntmps8
  go_wp2_with (fail)
  refine (s_l31System A n c l _ HN.out hl hr hs).mono ?_
  rw [h1]
  rintro e w1 ⟨rfl, hb1⟩
  go_wp2_with (fail)
  refine (s_l31SolveM A n c l _ HN.out HP.out.1 hl (hs.call hb1)).mono ?_
  rw [HV.out, HPR.out]
  rintro e w2 ⟨rfl, hb2⟩
  go_wp2_with (fail)
  go_ret3
  exact ⟨ret_iii HC.out.2.1.symm HC.out.2.2.symm HC.out.1.symm, bel_call hb1 hb2⟩
set_option maxHeartbeats 1000000 in
theorem s_SmallestSolution (A : Option Addr) (n c : Nat) (l : List Z3) (w : World) (hn : n = l.length) (hl : n ≤ 1048576) (hcn : n ≤ c) (hcm : c ≤ 9223372036854775807) (hr : R3 l) (hs : IT w w.heap.size A l) :
    Calls Try.prog 12 #[.slice A n c] w (M (.tuple #[.int .i64 (smN l), .int .i64 (soC l)]) w) := by
  have HN := Lib.hid hn
  clear hn
  cases h1 : sysB l
  · have HC : Hid (soC l = 1 ∧ smN l = 0) := by unfold Hid soC smN; rw [h1]; exact ⟨rfl, rfl⟩
    go_enter Try.func12, Try.ntmps12
    go_wp2_with (fail)
    refine (s_l31System A n c l _ HN.out hl hr hs).mono ?_
    rw [h1]
    rintro e w1 ⟨rfl, hb1⟩
    go_wp2_with (fail)
    go_ret2
    exact ⟨ret_ii HC.out.2.symm HC.out.1.symm, hb1⟩
  have hp := sysB_p h1
  have hpl := pr_le hp.1
  have hbd := slv_bd _ hp.1
  have HC : Hid (soC l = 0) := by unfold Hid soC; rw [h1]; rfl
  have HX : Hid (smN l = if (pr l l.length : Int) < 2 * slv l l.length then slv l l.length - (pr l l.length : Int) else slv l l.length) := by unfold Hid smN; rw [h1]; rfl
  have HP := Lib.hid hp
  generalize hV : slv l l.length = V at *
  generalize hPR : pr l l.length = PP at *
  have HV := Lib.hid hV
  have HPR := Lib.hid hPR
  clear hV hPR hp
  by_cases hg : (PP : Int) < 2 * V
  · have HX : Hid (smN l = V - (PP : Int)) := by unfold Hid; rw [HX.out, if_pos hg]
    go_enter Try.func12, Try.ntmps12
    go_wp2_with (fail)
    refine (s_l31System A n c l _ HN.out hl hr hs).mono ?_
    rw [h1]
    rintro e w1 ⟨rfl, hb1⟩
    go_wp2_with (fail)
    refine (s_l31SolveM A n c l _ HN.out HP.out.1 hl (hs.call hb1)).mono ?_
    rw [HV.out, HPR.out]
    rintro e w2 ⟨rfl, hb2⟩
    go_wp2_with (fail)
    go_ret2
    exact ⟨ret_ii HX.out.symm HC.out.symm, bel_call hb1 hb2⟩
  · have HX : Hid (smN l = V) := by unfold Hid; rw [HX.out, if_neg hg]
    go_enter Try.func12, Try.ntmps12
    go_wp2_with (fail)
    refine (s_l31System A n c l _ HN.out hl hr hs).mono ?_
    rw [h1]
    rintro e w1 ⟨rfl, hb1⟩
    go_wp2_with (fail)
    refine (s_l31SolveM A n c l _ HN.out HP.out.1 hl (hs.call hb1)).mono ?_
    rw [HV.out, HPR.out]
    rintro e w2 ⟨rfl, hb2⟩
    go_wp2_with (fail)
    go_ret2
    exact ⟨ret_ii HX.out.symm HC.out.symm, bel_call hb1 hb2⟩
set_option maxHeartbeats 1000000 in
theorem i_SolveSystem (A : Option Addr) (n c : Nat) (l : List Z3) (w : World) (hn : n = l.length) (hl : n ≤ 1048576) (hcn : n ≤ c) (hcm : c ≤ 9223372036854775807) (hr : R3 l) (hs : IT w w.heap.size A l) :
    Calls Try.prog 10 #[.slice A n c] w (M (.tuple #[.int .i64 (soN l), .int .i64 (soP l), .int .i64 (soC l)]) w) := by
  have HN := Lib.hid hn
  clear hn
  cases h1 : sysB l
  · have HC : Hid (soC l = 1 ∧ soN l = 0 ∧ soP l = 0) := by unfold Hid soC soN soP; rw [h1]; exact ⟨rfl, rfl, rfl⟩
    go_enter Try.func10, Try.ntmps10
    go_wp2_with (fail)
    refine (i_isSystem A n c l _ HN.out hl hcn hcm hr hs).mono ?_
    rw [h1]
    rintro e w1 ⟨rfl, hb1⟩
    go_wp2_with (fail)
    go_ret3
    exact ⟨ret_iii HC.out.2.1.symm HC.out.2.2.symm HC.out.1.symm, hb1⟩
  have hp := sysB_p h1
  have HC : Hid (soC l = 0 ∧ soN l = slv l l.length ∧ soP l = (pr l l.length : Nat)) := by unfold Hid soC soN soP; rw [h1]; exact ⟨rfl, rfl, rfl⟩
  have HP := Lib.hid hp
  generalize hV : slv l l.length = V at *
  generalize hPR : pr l l.length = PP at *
  have HV := Lib.hid hV
  have HPR := Lib.hid hPR
  clear hV hPR hp
  go_enter Try.func10, Try.ntmps10
  go_wp2_with (fail)
  refine (i_isSystem A n c l _ HN.out hl hcn hcm hr hs).mono ?_
  rw [h1]
  rintro e w1 ⟨rfl, hb1⟩
  go_wp2_with (fail)
  refine (i_solve A n c l _ HN.out HP.out.1 hl (hs.call hb1)).mono ?_
  rw [HV.out, HPR.out]
  rintro e w2 ⟨rfl, hb2⟩
  go_wp2_with (fail)
  go_ret3
  exact ⟨ret_iii HC.out.2.1.symm HC.out.2.2.symm HC.out.1.symm, bel_call hb1 hb2⟩
set_option maxHeartbeats 1000000 in
theorem i_SmallestSolution (A : Option Addr) (n c : Nat) (l : List Z3) (w : World) (hn : n = l.length) (hl : n ≤ 1048576) (hcn : n ≤ c) (hcm : c ≤ 9223372036854775807) (hr : R3 l) (hs : IT w w.heap.size A l) :
    Calls Try.prog 13 #[.slice A n c] w (M (.tuple #[.int .i64 (smN l), .int .i64 (soC l)]) w) := by
  have HN := Lib.hid hn
  clear hn
  cases h1 : sysB l
  · have HC : Hid (soC l = 1 ∧ smN l = 0) := by unfold Hid soC smN; rw [h1]; exact ⟨rfl, rfl⟩
    go_enter Try.func13, Try.ntmps13
    go_wp2_with (fail)
    refine (i_isSystem A n c l _ HN.out hl hcn hcm hr hs).mono ?_
    rw [h1]
    rintro e w1 ⟨rfl, hb1⟩
    go_wp2_with (fail)
    go_ret2
    exact ⟨ret_ii HC.out.2.symm HC.out.1.symm, hb1⟩
  have hp := sysB_p h1
  have hpl := pr_le hp.1
  have hbd := slv_bd _ hp.1
  have HC : Hid (soC l = 0) := by unfold Hid soC; rw [h1]; rfl
  have HX : Hid (smN l = if (pr l l.length : Int) < 2 * slv l l.length then slv l l.length - (pr l l.length : Int) else slv l l.length) := by unfold Hid smN; rw [h1]; rfl
  have HP := Lib.hid hp
  generalize hV : slv l l.length = V at *
  generalize hPR : pr l l.length = PP at *
  have HV := Lib.hid hV
  have HPR := Lib.hid hPR
  clear hV hPR hp
  by_cases hg : (PP : Int) < 2 * V
  · have HX : Hid (smN l = V - (PP : Int)) := by unfold Hid; rw [HX.out, if_pos hg]
    go_enter Try.func13, Try.ntmps13
    go_wp2_with (fail)
    refine (i_isSystem A n c l _ HN.out hl hcn hcm hr hs).mono ?_
    rw [h1]
    rintro e w1 ⟨rfl, hb1⟩
    go_wp2_with (fail)
    refine (i_solve A n c l _ HN.out HP.out.1 hl (hs.call hb1)).mono ?_
    rw [HV.out, HPR.out]
    rintro e w2 ⟨rfl, hb2⟩
    go_wp2_with (fail)
    go_ret2
    exact ⟨ret_ii HX.out.symm HC.out.symm, bel_call hb1 hb2⟩
  · have HX : Hid (smN l = V) := by unfold Hid; rw [HX.out, if_neg hg]
    go_enter Try.func13, Try.ntmps13
    go_wp2_with (fail)
    refine (i_isSystem A n c l _ HN.out hl hcn hcm hr hs).mono ?_
    rw [h1]
    rintro e w1 ⟨rfl, hb1⟩
    go_wp2_with (fail)
    refine (i_solve A n c l _ HN.out HP.out.1 hl (hs.call hb1)).mono ?_
    rw [HV.out, HPR.out]
    rintro e w2 ⟨rfl, hb2⟩
    go_wp2_with (fail)
    go_ret2
    exact ⟨ret_ii HX.out.symm HC.out.symm, bel_call hb1 hb2⟩
set_option maxHeartbeats 1000000 in
theorem law_SolveSystem (A : Option Addr) (n c : Nat) (l : List Z3) (w : World) (hn : n = l.length) (hc : n ≤ c) (hm : c ≤ maxLen) (hr : R3 l) (hs : IT w w.heap.size A l) :
    Calls Try.prog 3 #[.slice A n c] w (M (.bool true) w) := by
  unfold maxLen at hm
  have HN := Lib.hid hn
  clear hn
  by_cases hbig : n ≤ 1048576
  · obtain ⟨a, HA⟩ : ∃ a, Hid (soN l = a) := ⟨_, rfl⟩; obtain ⟨b, HB⟩ : ∃ a, Hid (soP l = a) := ⟨_, rfl⟩; obtain ⟨cd, HC⟩ : ∃ a, Hid (soC l = a) := ⟨_, rfl⟩
    go_enter Try.func3, Try.ntmps3
    go_wp2_with (fail)
    refine (l_szResidueS A n c _ (by omega)).mono ?_
    rw [if_pos hbig]
    rintro e w0 ⟨rfl, nq, rfl⟩
    have hs0 := hs.drewN nq
    have b0 := below_drewN (Below.refl w.heap.size w) nq
    generalize w.drewN nq = w0 at *
    have hs0 := hs.call b0
    go_wp2_with (fail)
    refine (l_toResidueS A n c l _ HN.out hbig hs0).mono ?_
    rintro e w1 ⟨g1, rfl, hN1, hb1⟩
    have b1 := bel_call b0 hb1
    go_wp2_with (fail)
    refine (s_SolveSystem _ n n l _ HN.out hbig (Nat.le_refl _) (by omega) hr hN1.is).mono ?_
    rw [HA.out, HB.out, HC.out]
    rintro e w2 ⟨rfl, hb2⟩
    have b2 := bel_call b1 hb2
    go_wp2_with (fail)
    refine (l_toResidueS A n c l _ HN.out hbig (hs.call b2)).mono ?_
    rintro e w3 ⟨g3', rfl, hN3, hb3⟩
    have b3 := bel_call b2 hb3
    go_wp2_with (fail)
    refine (i_SolveSystem _ n n l _ HN.out hbig (Nat.le_refl _) (by omega) hr hN3.is).mono ?_
    rw [HA.out, HB.out, HC.out]
    rintro e w4 ⟨rfl, hb4⟩
    have b4 := bel_call b3 hb4
    have hN4 := hN3.below hb4 hN3.lt
    go_wp2_with (fail)
    refine (l_toResidueS A n c l _ HN.out hbig (hs.call b4)).mono ?_
    rintro e w5 ⟨g5, rfl, hN5, hb5⟩
    have b5 := bel_call b4 hb5
    have hN6 := hN4.below hb5 hN4.lt
    go_wp2_with (fail)
    refine (l_eqResidueS _ _ n _ n _ l _ _ _ HN.out HN.out (by omega) (Nat.le_refl _) (Nat.le_refl _) hN6.is hN5.is).mono ?_
    rintro e w6 ⟨rfl, hb6⟩
    have b6 := bel_call b5 hb6
    go_wp2_with (fail)
    go_ret
    exact ⟨rfl, b6⟩
  · go_enter Try.func3, Try.ntmps3
    go_wp2_with (fail)
    refine (l_szResidueS A n c _ (by omega)).mono ?_
    rw [if_neg hbig]
    rintro e w0 ⟨rfl, nq, rfl⟩
    go_wp2_with (fail)
    go_ret
    exact ⟨rfl, below_drewN (Below.refl _ _) _⟩
set_option maxHeartbeats 1000000 in
theorem law_SmallestSolution (A : Option Addr) (n c : Nat) (l : List Z3) (w : World) (hn : n = l.length) (hc : n ≤ c) (hm : c ≤ maxLen) (hr : R3 l) (hs : IT w w.heap.size A l) :
    Calls Try.prog 4 #[.slice A n c] w (M (.bool true) w) := by
  unfold maxLen at hm
  have HN := Lib.hid hn
  clear hn
  by_cases hbig : n ≤ 1048576
  · obtain ⟨a, HA⟩ : ∃ a, Hid (smN l = a) := ⟨_, rfl⟩; obtain ⟨cd, HC⟩ : ∃ a, Hid (soC l = a) := ⟨_, rfl⟩
    go_enter Try.func4, Try.ntmps4
    go_wp2_with (fail)
    refine (l_szResidueS A n c _ (by omega)).mono ?_
    rw [if_pos hbig]
    rintro e w0 ⟨rfl, nq, rfl⟩
    have hs0 := hs.drewN nq
    have b0 := below_drewN (Below.refl w.heap.size w) nq
    generalize w.drewN nq = w0 at *
    have hs0 := hs.call b0
    go_wp2_with (fail)
    refine (l_toResidueS A n c l _ HN.out hbig hs0).mono ?_
    rintro e w1 ⟨g1, rfl, hN1, hb1⟩
    have b1 := bel_call b0 hb1
    go_wp2_with (fail)
    refine (s_SmallestSolution _ n n l _ HN.out hbig (Nat.le_refl _) (by omega) hr hN1.is).mono ?_
    rw [HA.out, HC.out]
    rintro e w2 ⟨rfl, hb2⟩
    have b2 := bel_call b1 hb2
    go_wp2_with (fail)
    refine (l_toResidueS A n c l _ HN.out hbig (hs.call b2)).mono ?_
    rintro e w3 ⟨g3', rfl, hN3, hb3⟩
    have b3 := bel_call b2 hb3
    go_wp2_with (fail)
    refine (i_SmallestSolution _ n n l _ HN.out hbig (Nat.le_refl _) (by omega) hr hN3.is).mono ?_
    rw [HA.out, HC.out]
    rintro e w4 ⟨rfl, hb4⟩
    have b4 := bel_call b3 hb4
    have hN4 := hN3.below hb4 hN3.lt
    go_wp2_with (fail)
    refine (l_toResidueS A n c l _ HN.out hbig (hs.call b4)).mono ?_
    rintro e w5 ⟨g5, rfl, hN5, hb5⟩
    have b5 := bel_call b4 hb5
    have hN6 := hN4.below hb5 hN4.lt
    go_wp2_with (fail)
    refine (l_eqResidueS _ _ n _ n _ l _ _ _ HN.out HN.out (by omega) (Nat.le_refl _) (Nat.le_refl _) hN6.is hN5.is).mono ?_
    rintro e w6 ⟨rfl, hb6⟩
    have b6 := bel_call b5 hb6
    go_wp2_with (fail)
    go_ret
    exact ⟨rfl, b6⟩
  · go_enter Try.func4, Try.ntmps4
    go_wp2_with (fail)
    refine (l_szResidueS A n c _ (by omega)).mono ?_
    rw [if_neg hbig]
    rintro e w0 ⟨rfl, nq, rfl⟩
    go_wp2_with (fail)
    go_ret
    exact ⟨rfl, below_drewN (Below.refl _ _) _⟩
end Go.Proofs.Ytnagocbjhbaelaa

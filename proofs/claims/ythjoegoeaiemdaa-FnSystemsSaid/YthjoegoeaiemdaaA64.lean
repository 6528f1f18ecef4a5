/- Walks: SolveSystem, SmallestSolution. -/
import Derived.Test.YthjoegoeaiemdaaA56
import Derived.Test.YthjoegoeaiemdaaA60
namespace Go.Proofs.Ythjoegoeaiemdaa
set_option linter.unusedVariables false
set_option linter.unusedSimpArgs false
open Go.RowKit

noncomputable def soC (l : List Z3) : Int := if sysB l then 0 else 1
noncomputable def soN (l : List Z3) : Int := if sysB l then slv l l.length else 0
noncomputable def soP (l : List Z3) : Int := if sysB l then (pr l l.length : Nat) else 0
noncomputable def smN (l : List Z3) : Int := if sysB l then (if (pr l l.length : Int) < 2 * slv l l.length then slv l l.length - (pr l l.length : Int) else slv l l.length) else 0
theorem s_l31SolveM (A : Option Addr) (n c : Nat) (l : List Z3) (w : World) (hn : n = l.length) (hsys : SysTo l l.length) (hl : n ≤ 1048576) (hs : IT w w.heap.size A l) :
    Calls Try.prog 77 #[.slice A n c] w (M (.tuple #[.int .i64 (slv l l.length), .int .i64 (pr l l.length : Nat)]) w) :=
  (s_l31Solve A n c l w hn hsys hl hs).mono fun _ _ ⟨h1, _, h2⟩ => ⟨h1, by rw [h2]; exact below_drewN (Below.refl _ _) _⟩
set_option maxHeartbeats 1000000 in
theorem s_SolveSystem (A : Option Addr) (n c : Nat) (l : List Z3) (w : World) (hn : n = l.length) (hl : n ≤ 1048576) (hcn : n ≤ c) (hcm : c ≤ 9223372036854775807) (hr : R3 l) (hs : IT w w.heap.size A l) :
    Calls Try.prog 27 #[.slice A n c] w (M (.tuple #[.int .i64 (soN l), .int .i64 (soP l), .int .i64 (soC l)]) w) := by
  have HN := Lib.hid hn
  clear hn
  cases h1 : sysB l
  · have HC : Hid (soC l = 1 ∧ soN l = 0 ∧ soP l = 0) := by unfold Hid soC soN soP; rw [h1]; exact ⟨rfl, rfl, rfl⟩
    go_enter Try.func27, Try.ntmps27
    go_wp2_with (fail)
    refine (s_l31System A n c l _ HN.out hl hr hs).mono ?_
    rw [h1]
    rintro e w1 ⟨rfl, hb1⟩
    go_wp2_with (fail)
    go_ret3
    exact ⟨ret_iii HC.out.2.1.symm HC.out.2.2.symm HC.out.1.symm, hb1⟩
  have hp := sysB_p h1
  have HC : Hid (soC l = 0 ∧ soN l = slv l l.length ∧ soP l = (pr l l.length : Nat)) := by unfold Hid soC soN soP; rw [h1]; exact ⟨rfl, rfl, rfl⟩
  have HP := Lib.hid hp
  generalize hV : slv l l.length = V at *
  generalize hPR : pr l l.length = PP at *
  have HV := Lib.hid hV
  have HPR := Lib.hid hPR
  clear hV hPR hp
  go_enter Try.func27, Try.ntmps27
  go_wp2_with (fail)
  refine (s_l31System A n c l _ HN.out hl hr hs).mono ?_
  rw [h1]
  rintro e w1 ⟨rfl, hb1⟩
  go_wp2_with (fail)
  refine (s_l31SolveM A n c l _ HN.out HP.out.1 hl (hs.call hb1)).mono ?_
  rw [HV.out, HPR.out]
  rintro e w2 ⟨rfl, hb2⟩
  go_wp2_with (fail)
  go_ret3
  exact ⟨ret_iii HC.out.2.1.symm HC.out.2.2.symm HC.out.1.symm, bel_call hb1 hb2⟩
set_option maxHeartbeats 1000000 in
theorem s_SmallestSolution (A : Option Addr) (n c : Nat) (l : List Z3) (w : World) (hn : n = l.length) (hl : n ≤ 1048576) (hcn : n ≤ c) (hcm : c ≤ 9223372036854775807) (hr : R3 l) (hs : IT w w.heap.size A l) :
    Calls Try.prog 29 #[.slice A n c] w (M (.tuple #[.int .i64 (smN l), .int .i64 (soC l)]) w) := by
  have HN := Lib.hid hn
  clear hn
  cases h1 : sysB l
  · have HC : Hid (soC l = 1 ∧ smN l = 0) := by unfold Hid soC smN; rw [h1]; exact ⟨rfl, rfl⟩
    go_enter Try.func29, Try.ntmps29
    go_wp2_with (fail)
    refine (s_l31System A n c l _ HN.out hl hr hs).mono ?_
    rw [h1]
    rintro e w1 ⟨rfl, hb1⟩
    go_wp2_with (fail)
    go_ret2
    exact ⟨ret_ii HC.out.2.symm HC.out.1.symm, hb1⟩
  have hp := sysB_p h1
  have hpl := pr_le hp.1
  have hbd := slv_bd _ hp.1
  have HC : Hid (soC l = 0) := by unfold Hid soC; rw [h1]; rfl
  have HX : Hid (smN l = if (pr l l.length : Int) < 2 * slv l l.length then slv l l.length - (pr l l.length : Int) else slv l l.length) := by unfold Hid smN; rw [h1]; rfl
  have HP := Lib.hid hp
  generalize hV : slv l l.length = V at *
  generalize hPR : pr l l.length = PP at *
  have HV := Lib.hid hV
  have HPR := Lib.hid hPR
  clear hV hPR hp
  by_cases hg : (PP : Int) < 2 * V
  · have HX : Hid (smN l = V - (PP : Int)) := by unfold Hid; rw [HX.out, if_pos hg]
    go_enter Try.func29, Try.ntmps29
    go_wp2_with (fail)
    refine (s_l31System A n c l _ HN.out hl hr hs).mono ?_
    rw [h1]
    rintro e w1 ⟨rfl, hb1⟩
    go_wp2_with (fail)
    refine (s_l31SolveM A n c l _ HN.out HP.out.1 hl (hs.call hb1)).mono ?_
    rw [HV.out, HPR.out]
    rintro e w2 ⟨rfl, hb2⟩
    go_wp2_with (fail)
    go_ret2
    exact ⟨ret_ii HX.out.symm HC.out.symm, bel_call hb1 hb2⟩
  · have HX : Hid (smN l = V) := by unfold Hid; rw [HX.out, if_neg hg]
    go_enter Try.func29, Try.ntmps29
    go_wp2_with (fail)
    refine (s_l31System A n c l _ HN.out hl hr hs).mono ?_
    rw [h1]
    rintro e w1 ⟨rfl, hb1⟩
    go_wp2_with (fail)
    refine (s_l31SolveM A n c l _ HN.out HP.out.1 hl (hs.call hb1)).mono ?_
    rw [HV.out, HPR.out]
    rintro e w2 ⟨rfl, hb2⟩
    go_wp2_with (fail)
    go_ret2
    exact ⟨ret_ii HX.out.symm HC.out.symm, bel_call hb1 hb2⟩
set_option maxHeartbeats 1000000 in
theorem i_SolveSystem (A : Option Addr) (n c : Nat) (l : List Z3) (w : World) (hn : n = l.length) (hl : n ≤ 1048576) (hcn : n ≤ c) (hcm : c ≤ 9223372036854775807) (hr : R3 l) (hs : IT w w.heap.size A l) :
    Calls Try.prog 26 #[.slice A n c] w (M (.tuple #[.int .i64 (soN l), .int .i64 (soP l), .int .i64 (soC l)]) w) := by
  have HN := Lib.hid hn
  clear hn
  cases h1 : sysB l
  · have HC : Hid (soC l = 1 ∧ soN l = 0 ∧ soP l = 0) := by unfold Hid soC soN soP; rw [h1]; exact ⟨rfl, rfl, rfl⟩
    go_enter Try.func26, Try.ntmps26
    go_wp2_with (fail)
    refine (i_isSystem A n c l _ HN.out hl hcn hcm hr hs).mono ?_
    rw [h1]
    rintro e w1 ⟨rfl, hb1⟩
    go_wp2_with (fail)
    go_ret3
    exact ⟨ret_iii HC.out.2.1.symm HC.out.2.2.symm HC.out.1.symm, hb1⟩
  have hp := sysB_p h1
  have HC : Hid (soC l = 0 ∧ soN l = slv l l.length ∧ soP l = (pr l l.length : Nat)) := by unfold Hid soC soN soP; rw [h1]; exact ⟨rfl, rfl, rfl⟩
  have HP := Lib.hid hp
  generalize hV : slv l l.length = V at *
  generalize hPR : pr l l.length = PP at *
  have HV := Lib.hid hV
  have HPR := Lib.hid hPR
  clear hV hPR hp
  go_enter Try.func26, Try.ntmps26
  go_wp2_with (fail)
  refine (i_isSystem A n c l _ HN.out hl hcn hcm hr hs).mono ?_
  rw [h1]
  rintro e w1 ⟨rfl, hb1⟩
  go_wp2_with (fail)
  refine (i_solve A n c l _ HN.out HP.out.1 hl (hs.call hb1)).mono ?_
  rw [HV.out, HPR.out]
  rintro e w2 ⟨rfl, hb2⟩
  go_wp2_with (fail)
  go_ret3
  exact ⟨ret_iii HC.out.2.1.symm HC.out.2.2.symm HC.out.1.symm, bel_call hb1 hb2⟩
set_option maxHeartbeats 1000000 in
theorem i_SmallestSolution (A : Option Addr) (n c : Nat) (l : List Z3) (w : World) (hn : n = l.length) (hl : n ≤ 1048576) (hcn : n ≤ c) (hcm : c ≤ 9223372036854775807) (hr : R3 l) (hs : IT w w.heap.size A l) :
    Calls Try.prog 28 #[.slice A n c] w (M (.tuple #[.int .i64 (smN l), .int .i64 (soC l)]) w) := by
  have HN := Lib.hid hn
  clear hn
  cases h1 : sysB l
  · have HC : Hid (soC l = 1 ∧ smN l = 0) := by unfold Hid soC smN; rw [h1]; exact ⟨rfl, rfl⟩
    go_enter Try.func28, Try.ntmps28
    go_wp2_with (fail)
    refine (i_isSystem A n c l _ HN.out hl hcn hcm hr hs).mono ?_
    rw [h1]
    rintro e w1 ⟨rfl, hb1⟩
    go_wp2_with (fail)
    go_ret2
    exact ⟨ret_ii HC.out.2.symm HC.out.1.symm, hb1⟩
  have hp := sysB_p h1
  have hpl := pr_le hp.1
  have hbd := slv_bd _ hp.1
  have HC : Hid (soC l = 0) := by unfold Hid soC; rw [h1]; rfl
  have HX : Hid (smN l = if (pr l l.length : Int) < 2 * slv l l.length then slv l l.length - (pr l l.length : Int) else slv l l.length) := by unfold Hid smN; rw [h1]; rfl
  have HP := Lib.hid hp
  generalize hV : slv l l.length = V at *
  generalize hPR : pr l l.length = PP at *
  have HV := Lib.hid hV
  have HPR := Lib.hid hPR
  clear hV hPR hp
  by_cases hg : (PP : Int) < 2 * V
  · have HX : Hid (smN l = V - (PP : Int)) := by unfold Hid; rw [HX.out, if_pos hg]
    go_enter Try.func28, Try.ntmps28
    go_wp2_with (fail)
    refine (i_isSystem A n c l _ HN.out hl hcn hcm hr hs).mono ?_
    rw [h1]
    rintro e w1 ⟨rfl, hb1⟩
    go_wp2_with (fail)
    refine (i_solve A n c l _ HN.out HP.out.1 hl (hs.call hb1)).mono ?_
    rw [HV.out, HPR.out]
    rintro e w2 ⟨rfl, hb2⟩
    go_wp2_with (fail)
    go_ret2
    exact ⟨ret_ii HX.out.symm HC.out.symm, bel_call hb1 hb2⟩
  · have HX : Hid (smN l = V) := by unfold Hid; rw [HX.out, if_neg hg]
    go_enter Try.func28, Try.ntmps28
    go_wp2_with (fail)
    refine (i_isSystem A n c l _ HN.out hl hcn hcm hr hs).mono ?_
    rw [h1]
    rintro e w1 ⟨rfl, hb1⟩
    go_wp2_with (fail)
    refine (i_solve A n c l _ HN.out HP.out.1 hl (hs.call hb1)).mono ?_
    rw [HV.out, HPR.out]
    rintro e w2 ⟨rfl, hb2⟩
    go_wp2_with (fail)
    go_ret2
    exact ⟨ret_ii HX.out.symm HC.out.symm, bel_call hb1 hb2⟩
end Go.Proofs.Ythjoegoeaiemdaa

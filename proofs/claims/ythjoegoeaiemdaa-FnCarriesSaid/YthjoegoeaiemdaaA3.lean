/- Contracts and walks: FactorialValuation, BinomialValuation, CountCarries. -/
import Derived.Test.YthjoegoeaiemdaaA2
namespace Go.Proofs.Ythjoegoeaiemdaa
set_option linter.unusedVariables false
set_option linter.unusedSimpArgs false
open Go.RowKit

noncomputable def fvC (n p : Int) : Int := codeF p (inB n 0 1000000000000)
noncomputable def fvV (n p : Int) : Int := if smallB p && inB n 0 1000000000000 then legI n p else 0
set_option maxHeartbeats 400000 in
theorem s_FactorialValuation (n p : Int) (w : World) (hp : -9223372036854775808 ≤ p) : Calls Try.prog 41 #[.int .i64 n, .int .i64 p] w (Q (.tuple #[.int .i64 (fvV n p), .int .i64 (fvC n p)]) w) := by
  cases h1 : smallB p <;> cases h2 : inB n 0 1000000000000
  case true.true =>
    obtain ⟨b1, b2⟩ := smallB_t h1
    obtain ⟨b3, b4⟩ := inB_true h2
    have hc : codeF p (inB n 0 1000000000000) = 0 := by simp [codeF, h1, h2]
    go_enter Try.func41, Try.ntmps41
    go_wp2_with (first | (go_at_call 89; refine (s_l32Code _ _ _ hp).mono ?_; rintro e w' ⟨rfl, nq, rfl⟩; rw [hc]) | (go_at_call 91; refine (s_l32Factorial _ _ _ b3 b4 b1 b2).mono ?_; rintro e w' ⟨rfl, nq, rfl⟩) | go_quiet ((go_at_call 91; exact Calls.quiet_of (s_l32Factorial _ _ _ b3 b4 b1 b2))))
    go_ret2
    refine ⟨ret_ii (by simp [fvV, h1, h2]) (by simp [fvC, hc]), ?_⟩
    first | exact dq1 | exact dq2 | exact ⟨0, rfl⟩ | (exact ⟨_, by rw [World.drewN_drewN]⟩) | (exact ⟨_, by rw [World.drewN_drewN, World.drewN_drewN]⟩)
  all_goals
    have hc : codeF p (inB n 0 1000000000000) = fvC n p := rfl
    have hx : (fvC n p != 0) = true := by simp [fvC, codeF, h1, h2]
    have hv : fvV n p = 0 := by simp [fvV, h1, h2]
    have HV := Lib.hid hv
    clear hv
    go_enter Try.func41, Try.ntmps41
    go_wp2_with (first | (go_at_call 89; refine (s_l32Code _ _ _ hp).mono ?_; rintro e w' ⟨rfl, nq, rfl⟩; rw [hc]))
    go_ret2
    refine ⟨ret_ii HV.out.symm rfl, ?_⟩
    first | exact dq1 | exact dq2 | exact ⟨0, rfl⟩ | (exact ⟨_, by rw [World.drewN_drewN]⟩) | (exact ⟨_, by rw [World.drewN_drewN, World.drewN_drewN]⟩)
set_option maxHeartbeats 400000 in
theorem i_FactorialValuation (n p : Int) (w : World) : Calls Try.prog 40 #[.int .i64 n, .int .i64 p] w (Q (.tuple #[.int .i64 (fvV n p), .int .i64 (fvC n p)]) w) := by
  cases h1 : smallB p <;> cases h2 : inB n 0 1000000000000
  case true.true =>
    obtain ⟨b1, b2⟩ := smallB_t h1
    obtain ⟨b3, b4⟩ := inB_true h2
    have hc : codeF p true = 0 := by simp [codeF, h1]
    go_enter Try.func40, Try.ntmps40
    go_wp2_with (first | (go_at_call 86; refine (i_isLarge _ _).mono ?_; rintro e w' ⟨rfl, nq, rfl⟩; rw [h2]) | (go_at_call 85; refine (i_counted _ _ _).mono ?_; rintro e w' ⟨rfl, nq, rfl⟩; rw [hc]) | (go_at_call 88; refine (i_factorialValuation _ _ _ b3 b4 b1 b2).mono ?_; rintro e w' ⟨rfl, nq, rfl⟩) | go_quiet ((go_at_call 88; exact Calls.quiet_of (i_factorialValuation _ _ _ b3 b4 b1 b2))))
    go_ret2
    refine ⟨ret_ii (by simp [fvV, h1, h2]) (by simp [fvC, h2, hc]), ?_⟩
    first | exact dq1 | exact dq2 | exact ⟨0, rfl⟩ | (exact ⟨_, by rw [World.drewN_drewN]⟩) | (exact ⟨_, by rw [World.drewN_drewN, World.drewN_drewN]⟩)
  all_goals
    have hc : codeF p (inB n 0 1000000000000) = fvC n p := rfl
    have hx : (fvC n p != 0) = true := by simp [fvC, codeF, h1, h2]
    have hv : fvV n p = 0 := by simp [fvV, h1, h2]
    have HV := Lib.hid hv
    clear hv
    have H2 := Lib.hid h2
    clear h2
    go_enter Try.func40, Try.ntmps40
    go_wp2_with (first | (go_at_call 86; refine (i_isLarge _ _).mono ?_; rintro e w' ⟨rfl, nq, rfl⟩) | (go_at_call 85; refine (i_counted _ _ _).mono ?_; rintro e w' ⟨rfl, nq, rfl⟩; rw [hc]))
    go_ret2
    refine ⟨ret_ii HV.out.symm rfl, ?_⟩
    first | exact dq1 | exact dq2 | exact ⟨0, rfl⟩ | (exact ⟨_, by rw [World.drewN_drewN]⟩) | (exact ⟨_, by rw [World.drewN_drewN, World.drewN_drewN]⟩)
noncomputable def bvB (n k : Int) : Bool := inB n 0 1000000000000 && inB k 0 n
noncomputable def bvC (n k p : Int) : Int := codeF p (bvB n k)
noncomputable def bvV (n k p : Int) : Int := if smallB p && bvB n k then legI n p - legI k p - legI (n - k) p else 0
set_option maxHeartbeats 1000000 in
theorem s_BinomialValuation (n k p : Int) (w : World) (hp : -9223372036854775808 ≤ p) : Calls Try.prog 35 #[.int .i64 n, .int .i64 k, .int .i64 p] w (Q (.tuple #[.int .i64 (bvV n k p), .int .i64 (bvC n k p)]) w) := by
  cases h1 : smallB p <;> cases h2 : inB n 0 1000000000000 <;> cases h3 : inB k 0 n
  case true.true.true =>
    obtain ⟨b1, b2⟩ := smallB_t h1
    obtain ⟨b3, b4⟩ := inB_true h2
    obtain ⟨b5, b6⟩ := inB_true h3
    have hc : codeF p (inB n 0 1000000000000) = 0 := by simp [codeF, h1, h2]
    obtain ⟨l1, l2⟩ := legI_bd b1 b3
    obtain ⟨l3, l4⟩ := legI_bd b1 b5
    obtain ⟨l5, l6⟩ := legI_bd (n := n - k) b1 (by omega)
    have b7 : 0 ≤ n - k := by omega
    have b8 : n - k ≤ 1000000000000 := by omega
    have b9 : k ≤ 1000000000000 := by omega
    go_enter Try.func35, Try.ntmps35
    go_wp2_with (first | (go_at_call 89; refine (s_l32Code _ _ _ hp).mono ?_; rintro e w' ⟨rfl, nq, rfl⟩; rw [hc]) | (go_at_call 90; refine (s_l01In _ _ _ _).mono ?_; rintro e w' ⟨rfl, nq, rfl⟩; rw [h3]) | (go_at_call 91; refine (s_l32Factorial _ _ _ (by omega) (by omega) b1 b2).mono ?_; rintro e w' ⟨rfl, nq, rfl⟩))
    go_ret2
    refine ⟨ret_ii (by simp [bvV, bvB, h1, h2, h3]) (by simp [bvC, bvB, h2, h3, codeF, h1]), ?_⟩
    repeat (first | exact dq1 | exact dq2 | exact ⟨0, rfl⟩ | (simp only [World.drewN_drewN]; exact ⟨_, rfl⟩))
  all_goals
    have hx : bvV n k p = 0 := by simp [bvV, bvB, h1, h2, h3]
    have hy : bvC n k p = codeF p (inB n 0 1000000000000 && inB k 0 n) := rfl
    simp only [h2, h3, codeF, h1] at hy
    simp at hy
    have HX := Lib.hid hx
    have HY := Lib.hid hy
    clear hx hy
    have hc : codeF p (inB n 0 1000000000000) = if smallB p then (if inB n 0 1000000000000 then 0 else 2) else 1 := rfl
    simp only [h1, h2] at hc
    simp at hc
    have HC := Lib.hid hc
    clear hc
    go_enter Try.func35, Try.ntmps35
    go_wp2_with (first | (go_at_call 89; refine (s_l32Code _ _ _ hp).mono ?_; rintro e w' ⟨rfl, nq, rfl⟩; rw [h2, HC.out]) | (go_at_call 90; refine (s_l01In _ _ _ _).mono ?_; rintro e w' ⟨rfl, nq, rfl⟩; rw [h3]))
    go_ret2
    refine ⟨ret_ii HX.out.symm HY.out.symm, ?_⟩
    repeat (first | exact dq1 | exact dq2 | exact ⟨0, rfl⟩ | (simp only [World.drewN_drewN]; exact ⟨_, rfl⟩))
set_option maxHeartbeats 1000000 in
theorem i_BinomialValuation (n k p : Int) (w : World) : Calls Try.prog 34 #[.int .i64 n, .int .i64 k, .int .i64 p] w (Q (.tuple #[.int .i64 (bvV n k p), .int .i64 (bvC n k p)]) w) := by
  cases h1 : smallB p <;> cases h2 : inB n 0 1000000000000 <;> cases h3 : inB k 0 n
  case true.true.true =>
    obtain ⟨b1, b2⟩ := smallB_t h1
    obtain ⟨b3, b4⟩ := inB_true h2
    obtain ⟨b5, b6⟩ := inB_true h3
    have hc : codeF p true = 0 := by simp [codeF, h1]
    obtain ⟨l1, l2⟩ := legI_bd b1 b3
    obtain ⟨l3, l4⟩ := legI_bd b1 b5
    obtain ⟨l5, l6⟩ := legI_bd (n := n - k) b1 (by omega)
    go_enter Try.func34, Try.ntmps34
    go_wp2_with (first | (go_at_call 86; refine (i_isLarge _ _).mono ?_; rintro e w' ⟨rfl, nq, rfl⟩; rw [h2]) | (go_at_call 87; refine (i_within _ _ _ _).mono ?_; rintro e w' ⟨rfl, nq, rfl⟩; rw [h3]) | (go_at_call 85; refine (i_counted _ _ _).mono ?_; rintro e w' ⟨rfl, nq, rfl⟩; rw [hc]) | (go_at_call 88; refine (i_factorialValuation _ _ _ (by omega) (by omega) b1 b2).mono ?_; rintro e w' ⟨rfl, nq, rfl⟩))
    go_ret2
    refine ⟨ret_ii (by simp [bvV, bvB, h1, h2, h3]) (by simp [bvC, bvB, h2, h3, codeF, h1]), ?_⟩
    repeat (first | exact dq1 | exact dq2 | exact ⟨0, rfl⟩ | (simp only [World.drewN_drewN]; exact ⟨_, rfl⟩))
  all_goals
    have hx : bvV n k p = 0 := by simp [bvV, bvB, h1, h2, h3]
    have hy : bvC n k p = codeF p (inB n 0 1000000000000 && inB k 0 n) := rfl
    simp only [h2, h3, codeF, h1] at hy
    simp at hy
    have HX := Lib.hid hx
    have HY := Lib.hid hy
    clear hx hy
    have hct : codeF p true = if smallB p then 0 else 1 := rfl
    have hcf : codeF p false = if smallB p then 2 else 1 := rfl
    simp only [h1] at hct hcf
    simp at hct hcf
    have HT := Lib.hid hct
    have HF := Lib.hid hcf
    clear hct hcf
    go_enter Try.func34, Try.ntmps34
    go_wp2_with (first | (go_at_call 86; refine (i_isLarge _ _).mono ?_; rintro e w' ⟨rfl, nq, rfl⟩; rw [h2]) | (go_at_call 87; refine (i_within _ _ _ _).mono ?_; rintro e w' ⟨rfl, nq, rfl⟩; rw [h3]) | (go_at_call 85; refine (i_counted _ _ _).mono ?_; rintro e w' ⟨rfl, nq, rfl⟩; first | rw [HT.out] | rw [HF.out]))
    go_ret2
    refine ⟨ret_ii HX.out.symm HY.out.symm, ?_⟩
    repeat (first | exact dq1 | exact dq2 | exact ⟨0, rfl⟩ | (simp only [World.drewN_drewN]; exact ⟨_, rfl⟩))
end Go.Proofs.Ythjoegoeaiemdaa

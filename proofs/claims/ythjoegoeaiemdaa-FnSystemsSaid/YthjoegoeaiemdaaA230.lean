/- The law FnSystems: for every code. -/
import Derived.Test.YthjoegoeaiemdaaA229
namespace Go.Proofs.Ythjoegoeaiemdaa
set_option linter.unusedVariables false
set_option linter.unusedSimpArgs false
open Go.RowKit

theorem ds_bool (l : List Z3) (x : Int) : dsC l x = 0 ∨ dsC l x = 1 ∨ dsC l x = 2 := by
  unfold dsC
  split
  · split <;> simp
  · simp
set_option maxRecDepth 20000 in
set_option maxHeartbeats 4000000 in
theorem law_Systems (A : Option Addr) (n c : Nat) (w : World) (hm : n ≤ maxLen) (hs : YB w w.heap.size A n) :
    Calls Try.prog 4 #[.slice A n c] w (M (.bool true) w) := by
  unfold maxLen at hm
  by_cases hbig : 4096 < n
  · go_enter Try.func4, Try.ntmps4
    go_wp2_with (go_at_call 7; refine (l_bigYes A n c _ hbig).mono ?_; rintro e w1 ⟨rfl, q1, rfl⟩)
    go_ret
    exact ⟨rfl, below_drewN (Below.refl _ _) _⟩
  have hn : n ≤ 4096 := by omega
  clear hm hbig
  have hd1 := fun W h => s_DrawSolveSystem A n c W hn h
  have hd2 := fun W h => s_DrawDoesSolve A n c W hn h
  go_enter Try.func4, Try.ntmps4
  go_wp2_with (go_at_call 7; refine (l_bigNo A n c _ hn).mono ?_; rintro e w1 ⟨rfl, q1, rfl⟩)
  have b1 := below_drewN (Below.refl w.heap.size w) q1
  generalize w.drewN q1 = w1 at *
  refine (hd1 _ (hs.call b1)).mono ?_
  rintro e w2 ⟨B, m, d, l, rfl, h1, h2, h3, h4, h5, h6, hb2⟩
  have b2 := bel_call b1 hb2
  have hi1 := fun W h => i_SolveSystem B m d l W h1 (by omega) h3 h4 h5 h
  have hs1 := fun W h => s_SolveSystem B m d l W h1 (by omega) h3 h4 h5 h
  have hi2 := fun W h => i_SmallestSolution B m d l W h1 (by omega) h3 h4 h5 h
  have hs2 := fun W h => s_SmallestSolution B m d l W h1 (by omega) h3 h4 h5 h
  have hi3 := fun x W h => i_DoesSolve B m d l x W h1 (by omega) h3 h4 h5 h
  have HI3 := Lib.hid hi3
  have HB := Lib.hid (sol_bd l)
  have hC : (soC l = 0 ∧ sysB l = true) ∨ (soC l = 1 ∧ sysB l = false) := by unfold soC; cases sysB l <;> simp
  have HOK := Lib.hid (fun h => sys_ok (l := l) h)
  have hS : -9223372036854775808 ≤ smN l ∧ smN l ≤ 9223372036854775807 := by
    rcases hC with ⟨_, h⟩ | ⟨_, h⟩
    · have := HOK.out h; exact ⟨by have := this.s0; omega, by have := this.s1; omega⟩
    · unfold smN; rw [h]; simp
  have H1 := Lib.hid h1
  clear hb2 b1 hd1 hi3 h1
  generalize soN l = N at *
  generalize soP l = P at *
  generalize smN l = S at *
  generalize soC l = C at *
  go_wp2_with (fail)
  refine (hi1 _ h6).mono ?_
  rintro e w3 ⟨rfl, hb3⟩
  have b3 := bel_call b2 hb3
  have h6 := h6.call hb3
  clear hb3 b2 hi1
  go_wp2_with (fail)
  refine (hs1 _ h6).mono ?_
  rintro e w4 ⟨rfl, hb4⟩
  have b4 := bel_call b3 hb4
  have h6 := h6.call hb4
  clear hb4 b3 hs1
  go_wp2_with (fail)
  refine (hi2 _ h6).mono ?_
  rintro e w5 ⟨rfl, hb5⟩
  have b5 := bel_call b4 hb5
  have h6 := h6.call hb5
  clear hb5 b4 hi2
  go_wp2_with (fail)
  refine (hs2 _ h6).mono ?_
  rintro e w6 ⟨rfl, hb6⟩
  have b6 := bel_call b5 hb6
  have h6 := h6.call hb6
  clear hb6 b5 hs2
  go_wp2_with (fail)
  refine (hd2 _ (hs.call b6)).mono ?_
  rintro e w7 ⟨B', m', d', l', x, rfl, k1, k2, k3, k4, k5, k6, hb7⟩
  have b7 := bel_call b6 hb7
  have h6 := h6.call hb7
  have hi4 := fun W h => i_DoesSolve B' m' d' l' x W k1 (by omega) k3 k4 k5 h
  have hs4 := fun W h => s_DoesSolve B' m' d' l' x W k1 (by omega) k5 h
  generalize dsB l' x = db at *
  generalize dsC l' x = dc at *
  have K1 := Lib.hid k1
  clear hb7 b6 hd2 k1
  go_wp2_with (fail)
  refine (hi4 _ k6).mono ?_
  rintro e w8 ⟨rfl, hb8⟩
  have b8 := bel_call b7 hb8
  have h6 := h6.call hb8
  have k6 := k6.call hb8
  clear hb8 b7 hi4
  go_wp2_with (fail)
  refine (hs4 _ k6).mono ?_
  rintro e w9 ⟨rfl, hb9⟩
  have b9 := bel_call b8 hb9
  have h6 := h6.call hb9
  clear hb9 b8 hs4 k6
  rcases hC with ⟨rfl, hsy⟩ | ⟨rfl, hsy⟩
  · have ok := HOK.out hsy
    obtain ⟨a1, a2, a3, a4, a5, ⟨a6, a7⟩, ⟨a8, a9⟩, a10, a11, a12⟩ := ok
    have hn1 := HI3.out N
    have hn2 := HI3.out S
    rw [a6, a7] at hn1
    rw [a8, a9] at hn2
    have hrem : (N - S).tmod P = 0 := by
      rcases a12 with h | h
      · rw [h]; simp
      · rw [h]; exact Int.tmod_self
    have hrem' : (N - S) % P = 0 := by
      rcases a12 with h | h
      · rw [h]; simp
      · rw [h]; exact Int.emod_self
    have hns : 0 ≤ N - S := by omega
    have HR := Lib.hid hrem
    have HR' := Lib.hid hrem'
    clear a6 a7 a8 a9 a12 HOK HI3 HB hsy hrem hrem'
    go_wp2_with (fail)
    refine (hn1 _ h6).mono ?_
    rintro e w10 ⟨rfl, hb10⟩
    have b10 := bel_call b9 hb10
    have h6 := h6.call hb10
    clear hb10 b9 hn1
    go_wp2_with (fail)
    refine (hn2 _ h6).mono ?_
    rintro e w11 ⟨rfl, hb11⟩
    have b11 := bel_call b10 hb11
    clear hb11 b10 hn2 h6
    have hP : ¬ P = 0 := by omega
    have hrem : (N - S).tmod P = 0 := HR.out
    have hrem' : (N - S) % P = 0 := HR'.out
    go_wp2_with (fail)
    all_goals
      go_ret
      exact ⟨by simp [*], b11⟩
  · clear HOK HI3 HB hsy
    go_wp2_with (fail)
    go_ret
    exact ⟨rfl, b9⟩
end Go.Proofs.Ythjoegoeaiemdaa

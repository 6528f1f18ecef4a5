/- Contracts and walks: the program's IsPolynomial, IsSmall, IsModerate; the law of IsModerate. -/
import Derived.Test.YtcbjfdeigpdbdaaA12
namespace Go.Proofs.Ytcbjfdeigpdbdaa
set_option linter.unusedVariables false
set_option linter.unusedSimpArgs false
open Go.RowKit

set_option maxHeartbeats 1000000 in
theorem i_IsPolynomial (A : Option Addr) (n c : Nat) (xs : List Int) (w : World) (B : Nat) (hn : n = xs.length) (hl : n ≤ 1048576) (hs : IS w B A xs) :
    Calls Try.prog 92 #[.slice A n c] w (Q (.bool (polyB xs)) w) := by
  have HN := Lib.hid hn
  clear hn
  by_cases h9 : 9 < n
  · have HX : Hid (polyB xs = false) := by
      unfold Hid polyB; rw [← HN.out]; simp; intro _ h; omega
    go_enter Try.func92, Try.ntmps92
    go_wp2_with (fail)
    go_ret
    exact ⟨ret_bool HX.out.symm, ⟨0, rfl⟩⟩
  have h9' : n ≤ 9 := by omega
  clear h9
  cases hall : allB 1000000 xs
  · have HX : Hid (polyB xs = false) := by unfold Hid polyB; rw [hall]; rfl
    go_enter Try.func92, Try.ntmps92
    go_wp2_with (first | (go_at_call 108; refine (c_i_polyC _ _ _ xs _ B HN.out hl hs).mono ?_; rintro e w' ⟨rfl, nq, rfl⟩; rw [hall]))
    go_ret
    exact ⟨ret_bool HX.out.symm, dq1⟩
  by_cases h0 : n = 0
  · have HX : Hid (polyB xs = true) := by
      unfold Hid polyB; rw [hall, ← HN.out]; simp [h0]
    subst h0
    go_enter Try.func92, Try.ntmps92
    go_wp2_with (first | (go_at_call 108; refine (c_i_polyC _ _ _ xs _ B HN.out hl hs).mono ?_; rintro e w' ⟨rfl, nq, rfl⟩; rw [hall]))
    go_ret
    exact ⟨ret_bool HX.out.symm, dq1⟩
  · have hk1 : 0 < n := by omega
    have hk2 : ((n : Int) == 0) = false := by rw [beq_eq_false_iff_ne]; omega
    have HX : Hid (polyB xs = (lastI xs != 0)) := by
      unfold Hid polyB; rw [hall, ← HN.out]; simp [h0, h9']
    obtain ⟨b, off, rfl, hcl⟩ := hs.last HN.out hk1
    have hs1 : IntKind.i64.wrap ((n : Int) - 1) = (n : Int) - 1 := IntWalk.i64_in _ (by omega)
    have hs2 : ((n : Int) - 1).toNat = n - 1 := by omega
    have hs3 : 1 ≤ (n : Int) := by omega
    have hs4 : 0 ≤ (n : Int) - 1 := by omega
    go_enter Try.func92, Try.ntmps92
    go_wp2_with (first | (go_at_call 108; refine (c_i_polyC _ _ _ xs _ B HN.out hl hs).mono ?_; rintro e w' ⟨rfl, nq, rfl⟩; rw [hall]) | go_quiet (fail))
    go_ret
    exact ⟨ret_bool HX.out.symm, by first | exact dq1 | exact dq2⟩
set_option maxHeartbeats 400000 in
theorem i_degree (A : Option Addr) (n c : Nat) (w : World) (hl : n ≤ 1048576) : Calls Try.prog 44 #[.slice A n c] w (Q (.int .i64 ((n : Int) - 1)) w) := by
  go_enter Try.func44, Try.ntmps44
  go_wp2_with (first | (go_at_call 94; refine (i_size _ _ _ _).mono ?_; rintro e w' ⟨rfl, nq, rfl⟩))
  go_ret
  exact ⟨rfl, dq1⟩
theorem smallPB_len {xs : List Int} (h : smallPB xs = true) : 2 ≤ xs.length ∧ xs.length ≤ 5 := by
  unfold smallPB at h; simp at h; exact h.2.2
set_option maxHeartbeats 1000000 in
theorem i_IsSmall (A : Option Addr) (n c : Nat) (xs : List Int) (w : World) (B : Nat) (hn : n = xs.length) (hl : n ≤ 1048576) (hs : IS w B A xs) :
    Calls Try.prog 142 #[.slice A n c] w (Q (.bool (smallPB xs)) w) := by
  have HN := Lib.hid hn
  clear hn
  have hin : inB ((n : Int) - 1) 1 4 = decide (2 ≤ xs.length ∧ xs.length ≤ 5) := by
    rw [← HN.out, Bool.eq_iff_iff]; simp [inB]; omega
  have HI := Lib.hid hin
  clear hin
  cases hp : polyB xs <;> cases h2 : decide (2 ≤ xs.length ∧ xs.length ≤ 5) <;> cases hall : allB 60 xs
  all_goals
    have hx : smallPB xs = (allB 60 xs && (polyB xs && decide (2 ≤ xs.length ∧ xs.length ≤ 5))) := rfl
    rw [hp, h2, hall] at hx
    have HX := Lib.hid hx
    clear hx
    have HI2 := Lib.hid (HI.out.trans h2)
    clear h2
    go_enter Try.func142, Try.ntmps142
    go_wp2_with (first | (go_at_call 92; refine (i_IsPolynomial _ _ _ xs _ B HN.out hl hs).mono ?_; rintro e w' ⟨rfl, nq, rfl⟩; rw [hp]) | (go_at_call 44; refine (i_degree _ _ _ _ hl).mono ?_; rintro e w' ⟨rfl, nq, rfl⟩) | (go_at_call 53; refine (i_within _ _ _ _).mono ?_; rintro e w' ⟨rfl, nq, rfl⟩; rw [HI2.out]) | (go_at_call 108; refine (c_i_smallC _ _ _ xs _ B HN.out hl (hs.drewN _)).mono ?_; rintro e w' ⟨rfl, nq, rfl⟩; rw [hall]))
    go_ret
    exact ⟨ret_bool HX.out.symm, by first | exact dq1 | exact dq2⟩
def monB (xs : List Int) : Bool := decide (0 < xs.length) && lastI xs == 1
set_option maxHeartbeats 1000000 in
theorem i_isMonic (A : Option Addr) (n c : Nat) (xs : List Int) (w : World) (B : Nat) (hn : n = xs.length) (hl : n ≤ 1048576) (hs : IS w B A xs) :
    Calls Try.prog 143 #[.slice A n c] w (Q (.bool (monB xs)) w) := by
  have HN := Lib.hid hn
  clear hn
  by_cases h0 : n = 0
  · have HX : Hid (monB xs = false) := by unfold Hid monB; rw [← HN.out]; simp [h0]
    subst h0
    go_enter Try.func143, Try.ntmps143
    go_wp2_with (fail)
    go_ret
    exact ⟨ret_bool HX.out.symm, ⟨0, rfl⟩⟩
  · have hk1 : 0 < n := by omega
    have HX : Hid (monB xs = (lastI xs == 1)) := by unfold Hid monB; rw [← HN.out]; simp [hk1]
    obtain ⟨b, off, rfl, hcl⟩ := hs.last HN.out hk1
    have hs1 : IntKind.i64.wrap ((n : Int) - 1) = (n : Int) - 1 := IntWalk.i64_in _ (by omega)
    have hs2 : ((n : Int) - 1).toNat = n - 1 := by omega
    have hs3 : 1 ≤ (n : Int) := by omega
    have hs4 : 0 ≤ (n : Int) - 1 := by omega
    go_enter Try.func143, Try.ntmps143
    go_wp2_with (first | go_quiet (fail))
    go_ret
    exact ⟨ret_bool HX.out.symm, by first | exact ⟨0, rfl⟩ | exact dq1 | exact dq2⟩
set_option maxHeartbeats 1000000 in
theorem i_IsModerate (A : Option Addr) (n c : Nat) (xs : List Int) (w : World) (B : Nat) (hn : n = xs.length) (hl : n ≤ 1048576) (hs : IS w B A xs) :
    Calls Try.prog 93 #[.slice A n c] w (Q (.bool (modB xs)) w) := by
  have HN := Lib.hid hn
  clear hn
  cases hp : smallPB xs <;> cases h2 : monB xs <;> cases hall : allB 20 xs
  all_goals
    have HX : Hid (modB xs = (smallPB xs && (monB xs && allB 20 xs))) := by
      unfold Hid modB
      cases hq : smallPB xs
      · simp
      · have := smallPB_len hq
        unfold monB
        rw [decide_eq_true (show 0 < xs.length by omega)]
        simp [Bool.and_comm]
    rw [hp, h2, hall] at HX
    go_enter Try.func93, Try.ntmps93
    go_wp2_with (first | (go_at_call 142; refine (i_IsSmall _ _ _ xs _ B HN.out hl hs).mono ?_; rintro e w' ⟨rfl, nq, rfl⟩; rw [hp]) | (go_at_call 143; refine (i_isMonic _ _ _ xs _ B HN.out hl (hs.drewN _)).mono ?_; rintro e w' ⟨rfl, nq, rfl⟩; rw [h2]) | (go_at_call 108; refine (c_i_modC _ _ _ xs _ B HN.out hl (hs.drewN _)).mono ?_; rintro e w' ⟨rfl, nq, rfl⟩; rw [hall]))
    go_ret
    exact ⟨ret_bool HX.out.symm, by first | exact dq1 | exact dq2⟩
end Go.Proofs.Ytcbjfdeigpdbdaa

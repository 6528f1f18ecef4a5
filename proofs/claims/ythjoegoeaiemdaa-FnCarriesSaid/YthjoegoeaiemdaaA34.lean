/- Walks: StrassmannCount. -/
import Derived.Test.YthjoegoeaiemdaaA33
import Derived.Test.YthjoegoeaiemdaaA30
namespace Go.Proofs.Ythjoegoeaiemdaa
set_option linter.unusedVariables false
set_option linter.unusedSimpArgs false
open Go.RowKit

noncomputable def scC (p : Int) (xs : List Int) : Int := if smallB p && polyB xs then (if xs.length = 0 then 5 else 0) else 1
def bst (l : List (Int × Int)) : Nat → Int × Int
  | 0 => gp l 0
  | k + 1 => if (gp l k).2 ≤ (bst l k).2 then gp l k else bst l k
theorem bst_yes {l : List (Int × Int)} {k : Nat} (h : (gp l k).2 ≤ (bst l k).2) : bst l (k + 1) = gp l k := if_pos h
theorem bst_no {l : List (Int × Int)} {k : Nat} (h : ¬ (gp l k).2 ≤ (bst l k).2) : bst l (k + 1) = bst l k := if_neg h
def bsi (l : List (Int × Int)) (k : Nat) : Int × Int := if k = 0 then (-1, 0) else bst l k
theorem bsi_succ {l : List (Int × Int)} (k : Nat) : bsi l (k + 1) = bst l (k + 1) := rfl
theorem bst_pos {l : List (Int × Int)} (h : ∀ x ∈ l, 0 ≤ x.1) (h0 : 0 < l.length) : ∀ k, k ≤ l.length → 0 ≤ (bst l k).1 := by
  intro k
  induction k with
  | zero => intro _; exact h _ (gp_mem h0)
  | succ k ih =>
    intro hk
    by_cases hx : (gp l k).2 ≤ (bst l k).2
    · rw [bst_yes hx]; exact h _ (gp_mem (by omega))
    · rw [bst_no hx]; exact ih (by omega)
theorem bst_one (l : List (Int × Int)) : bst l 1 = gp l 0 := bst_yes (Int.le_refl _)
noncomputable def scL (p : Int) (xs : List Int) : List (Int × Int) := ptl p.toNat xs xs.length
noncomputable def scV (p : Int) (xs : List Int) : Int := if scC p xs = 0 then (bst (scL p xs) (scL p xs).length).1 else 0
theorem polyB_bd {xs : List Int} (h : polyB xs = true) : xs.length ≤ 9 ∧ (∀ k, k < xs.length → -1000000 ≤ gt xs k ∧ gt xs k ≤ 1000000) ∧ (xs.length = 0 ∨ lastI xs ≠ 0) := by
  unfold polyB at h
  simp only [Bool.and_eq_true, Bool.or_eq_true, decide_eq_true_eq, bne_iff_ne] at h
  exact ⟨h.2.1, fun k hk => inB_true (allB_p h.1 k hk), h.2.2⟩
theorem ptl_last {p : Nat} {xs : List Int} (h0 : 0 < xs.length) (h : lastI xs ≠ 0) : 0 < (ptl p xs xs.length).length := by
  unfold lastI at h
  have e : xs.length = (xs.length - 1) + 1 := by omega
  rw [e, ptl_yes h]
  simp
theorem scC_0 {p : Int} {xs : List Int} (h : scC p xs = 0) : smallB p = true ∧ polyB xs = true ∧ 0 < xs.length := by
  unfold scC at h
  cases h1 : smallB p <;> cases h2 : polyB xs <;> rw [h1, h2] at h <;> simp at h
  exact ⟨rfl, rfl, by
    rcases Nat.eq_zero_or_pos xs.length with h3 | h3
    · have : xs = [] := List.eq_nil_of_length_eq_zero h3
      subst this; simp at h
    · exact h3⟩
set_option maxHeartbeats 1000000 in
theorem s_l13Code (p : Int) (A : Option Addr) (n c : Nat) (xs : List Int) (w : World) (B : Nat) (hp0 : -9223372036854775808 ≤ p) (hn : n = xs.length) (hl : n ≤ 1048576) (hs : IS w B A xs) :
    Calls Try.prog 96 #[.int .i64 p, .slice A n c] w (Q (.int .i64 (scC p xs)) w) := by
  have HC : Hid (scC p xs = if smallB p && polyB xs then (if n = 0 then 5 else 0) else 1) := by unfold Hid scC; rw [hn]
  have HN := Lib.hid hn
  clear hn
  cases h1 : smallB p
  · have HY : Hid (scC p xs = 1) := by unfold Hid; rw [HC.out, h1]; rfl
    clear HC
    go_enter Try.func96, Try.ntmps96
    go_wp2_with (first | (go_at_call 110; refine (s_l01Small _ _ hp0).mono ?_; rintro e w' ⟨rfl, nq, rfl⟩; rw [h1]) | (go_at_call 148; refine (s_IsPolynomial _ _ _ xs _ B HN.out hl (by first | exact hs | exact IS.drewN hs _)).mono ?_; rintro e w' ⟨rfl, nq, rfl⟩; rw [h2]))
    go_ret
    refine ⟨ret_int HY.out.symm, ?_⟩
    repeat (first | exact dq1 | exact dq2 | exact ⟨0, rfl⟩ | (simp only [World.drewN_drewN]; exact ⟨_, rfl⟩))
  cases h2 : polyB xs
  · have HY : Hid (scC p xs = 1) := by unfold Hid; rw [HC.out, h1, h2]; rfl
    clear HC
    go_enter Try.func96, Try.ntmps96
    go_wp2_with (first | (go_at_call 110; refine (s_l01Small _ _ hp0).mono ?_; rintro e w' ⟨rfl, nq, rfl⟩; rw [h1]) | (go_at_call 148; refine (s_IsPolynomial _ _ _ xs _ B HN.out hl (by first | exact hs | exact IS.drewN hs _)).mono ?_; rintro e w' ⟨rfl, nq, rfl⟩; rw [h2]))
    go_ret
    refine ⟨ret_int HY.out.symm, ?_⟩
    repeat (first | exact dq1 | exact dq2 | exact ⟨0, rfl⟩ | (simp only [World.drewN_drewN]; exact ⟨_, rfl⟩))
  by_cases h3 : n = 0
  · have h4 : ((n : Int) == 0) = true := by rw [beq_iff_eq]; omega
    have HY : Hid (scC p xs = 5) := by unfold Hid; rw [HC.out, h1, h2, if_pos h3]; rfl
    clear HC h3
    go_enter Try.func96, Try.ntmps96
    go_wp2_with (first | (go_at_call 110; refine (s_l01Small _ _ hp0).mono ?_; rintro e w' ⟨rfl, nq, rfl⟩; rw [h1]) | (go_at_call 148; refine (s_IsPolynomial _ _ _ xs _ B HN.out hl (by first | exact hs | exact IS.drewN hs _)).mono ?_; rintro e w' ⟨rfl, nq, rfl⟩; rw [h2]))
    go_ret
    refine ⟨ret_int HY.out.symm, ?_⟩
    repeat (first | exact dq1 | exact dq2 | exact ⟨0, rfl⟩ | (simp only [World.drewN_drewN]; exact ⟨_, rfl⟩))
  · have h4 : ((n : Int) == 0) = false := by rw [beq_eq_false_iff_ne]; omega
    have HY : Hid (scC p xs = 0) := by unfold Hid; rw [HC.out, h1, h2, if_neg h3]; rfl
    clear HC h3
    go_enter Try.func96, Try.ntmps96
    go_wp2_with (first | (go_at_call 110; refine (s_l01Small _ _ hp0).mono ?_; rintro e w' ⟨rfl, nq, rfl⟩; rw [h1]) | (go_at_call 148; refine (s_IsPolynomial _ _ _ xs _ B HN.out hl (by first | exact hs | exact IS.drewN hs _)).mono ?_; rintro e w' ⟨rfl, nq, rfl⟩; rw [h2]))
    go_ret
    refine ⟨ret_int HY.out.symm, ?_⟩
    repeat (first | exact dq1 | exact dq2 | exact ⟨0, rfl⟩ | (simp only [World.drewN_drewN]; exact ⟨_, rfl⟩))
set_option maxHeartbeats 1000000 in
theorem i_polygonal (p : Int) (A : Option Addr) (n c : Nat) (xs : List Int) (w : World) (B : Nat) (hp0 : -9223372036854775808 ≤ p) (hn : n = xs.length) (hl : n ≤ 1048576) (hs : IS w B A xs) :
    Calls Try.prog 94 #[.int .i64 p, .slice A n c] w (Q (.int .i64 (scC p xs)) w) := by
  have HC : Hid (scC p xs = if smallB p && polyB xs then (if n = 0 then 5 else 0) else 1) := by unfold Hid scC; rw [hn]
  have HN := Lib.hid hn
  clear hn
  cases h1 : smallB p
  · have HY : Hid (scC p xs = 1) := by unfold Hid; rw [HC.out, h1]; rfl
    clear HC
    go_enter Try.func94, Try.ntmps94
    go_wp2_with (first | (go_at_call 112; refine (i_isSmallPrime _ _ ).mono ?_; rintro e w' ⟨rfl, nq, rfl⟩; rw [h1]) | (go_at_call 147; refine (i_IsPolynomial _ _ _ xs _ B HN.out hl (by first | exact hs | exact IS.drewN hs _)).mono ?_; rintro e w' ⟨rfl, nq, rfl⟩; rw [h2]))
    go_ret
    refine ⟨ret_int HY.out.symm, ?_⟩
    repeat (first | exact dq1 | exact dq2 | exact ⟨0, rfl⟩ | (simp only [World.drewN_drewN]; exact ⟨_, rfl⟩))
  cases h2 : polyB xs
  · have HY : Hid (scC p xs = 1) := by unfold Hid; rw [HC.out, h1, h2]; rfl
    clear HC
    go_enter Try.func94, Try.ntmps94
    go_wp2_with (first | (go_at_call 112; refine (i_isSmallPrime _ _ ).mono ?_; rintro e w' ⟨rfl, nq, rfl⟩; rw [h1]) | (go_at_call 147; refine (i_IsPolynomial _ _ _ xs _ B HN.out hl (by first | exact hs | exact IS.drewN hs _)).mono ?_; rintro e w' ⟨rfl, nq, rfl⟩; rw [h2]))
    go_ret
    refine ⟨ret_int HY.out.symm, ?_⟩
    repeat (first | exact dq1 | exact dq2 | exact ⟨0, rfl⟩ | (simp only [World.drewN_drewN]; exact ⟨_, rfl⟩))
  by_cases h3 : n = 0
  · have h4 : ((n : Int) == 0) = true := by rw [beq_iff_eq]; omega
    have HY : Hid (scC p xs = 5) := by unfold Hid; rw [HC.out, h1, h2, if_pos h3]; rfl
    clear HC h3
    go_enter Try.func94, Try.ntmps94
    go_wp2_with (first | (go_at_call 112; refine (i_isSmallPrime _ _ ).mono ?_; rintro e w' ⟨rfl, nq, rfl⟩; rw [h1]) | (go_at_call 147; refine (i_IsPolynomial _ _ _ xs _ B HN.out hl (by first | exact hs | exact IS.drewN hs _)).mono ?_; rintro e w' ⟨rfl, nq, rfl⟩; rw [h2]))
    go_ret
    refine ⟨ret_int HY.out.symm, ?_⟩
    repeat (first | exact dq1 | exact dq2 | exact ⟨0, rfl⟩ | (simp only [World.drewN_drewN]; exact ⟨_, rfl⟩))
  · have h4 : ((n : Int) == 0) = false := by rw [beq_eq_false_iff_ne]; omega
    have HY : Hid (scC p xs = 0) := by unfold Hid; rw [HC.out, h1, h2, if_neg h3]; rfl
    clear HC h3
    go_enter Try.func94, Try.ntmps94
    go_wp2_with (first | (go_at_call 112; refine (i_isSmallPrime _ _ ).mono ?_; rintro e w' ⟨rfl, nq, rfl⟩; rw [h1]) | (go_at_call 147; refine (i_IsPolynomial _ _ _ xs _ B HN.out hl (by first | exact hs | exact IS.drewN hs _)).mono ?_; rintro e w' ⟨rfl, nq, rfl⟩; rw [h2]))
    go_ret
    refine ⟨ret_int HY.out.symm, ?_⟩
    repeat (first | exact dq1 | exact dq2 | exact ⟨0, rfl⟩ | (simp only [World.drewN_drewN]; exact ⟨_, rfl⟩))
end Go.Proofs.Ythjoegoeaiemdaa

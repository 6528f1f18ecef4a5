/- Contracts: SumPolynomial, CubicResolvent; laws whose result is a slice of int64. -/
import Derived.Test.YtcbjfdeigpdbdaaA17
import Derived.Test.YtcbjfdeigpdbdaaA13
namespace Go.Proofs.Ytcbjfdeigpdbdaa
set_option linter.unusedVariables false
set_option linter.unusedSimpArgs false
open Go.RowKit

theorem mul_bd {x y : Int} {a b : Nat} (hx : x.natAbs ≤ a) (hy : y.natAbs ≤ b) : (x * y).natAbs ≤ a * b := by
  rw [Int.natAbs_mul]; exact Nat.mul_le_mul hx hy
noncomputable def codeM (xs : List Int) (lo hi : Int) : Int := if polyB xs then (if modB xs then (if lo ≤ (xs.length : Int) - 1 ∧ (xs.length : Int) - 1 ≤ hi then 0 else 5) else 2) else 1
theorem codeM_0 {xs : List Int} {lo hi : Int} (h : codeM xs lo hi = 0) : polyB xs = true ∧ modB xs = true ∧ lo ≤ (xs.length : Int) - 1 ∧ (xs.length : Int) - 1 ≤ hi := by
  unfold codeM at h
  cases h1 : polyB xs <;> cases h2 : modB xs <;> rw [h1, h2] at h <;> simp at h
  exact ⟨rfl, rfl, h.1, h.2⟩
theorem modB_all {xs : List Int} (h : modB xs = true) : ∀ k, k < xs.length → -20 ≤ gt xs k ∧ gt xs k ≤ 20 := by
  unfold modB at h
  simp only [Bool.and_eq_true] at h
  intro k hk
  exact inB_true (allB_p h.1 k hk)
set_option maxHeartbeats 1000000 in
theorem s_l27Code (A : Option Addr) (n c : Nat) (xs : List Int) (lo hi : Int) (w : World) (B : Nat) (hn : n = xs.length) (hl : n ≤ 1048576) (hs : IS w B A xs) :
    Calls Try.prog 40 #[.slice A n c, .int .i64 lo, .int .i64 hi] w (Q (.int .i64 (codeM xs lo hi)) w) := by
  have HN := Lib.hid hn
  clear hn
  have hdef : codeM xs lo hi = if polyB xs then (if modB xs then (if lo ≤ (xs.length : Int) - 1 ∧ (xs.length : Int) - 1 ≤ hi then 0 else 5) else 2) else 1 := rfl
  rw [← HN.out] at hdef
  cases h1 : polyB xs
  · rw [h1] at hdef
    have HX := Lib.hid hdef
    clear hdef
    go_enter Try.func40, Try.ntmps40
    go_wp2_with (first | (go_at_call 89; refine (s_IsPolynomial _ _ _ xs _ B HN.out hl hs).mono ?_; rintro e w' ⟨rfl, nq, rfl⟩; rw [h1]))
    go_ret
    exact ⟨ret_int (by rw [HX.out]; simp), dq1⟩
  cases h2 : modB xs
  · rw [h1, h2] at hdef
    have HX := Lib.hid hdef
    clear hdef
    go_enter Try.func40, Try.ntmps40
    go_wp2_with (first | (go_at_call 89; refine (s_IsPolynomial _ _ _ xs _ B HN.out hl hs).mono ?_; rintro e w' ⟨rfl, nq, rfl⟩; rw [h1]) | (go_at_call 90; refine (s_IsModerate _ _ _ xs _ B HN.out hl (hs.drewN _)).mono ?_; rintro e w' ⟨rfl, nq, rfl⟩; rw [h2]))
    go_ret
    exact ⟨ret_int (by rw [HX.out]; simp), by first | exact dq1 | exact dq2⟩
  rw [h1, h2] at hdef
  simp only [if_true] at hdef
  by_cases h3 : (n : Int) - 1 < lo
  · have HX : Hid (codeM xs lo hi = 5) := by unfold Hid; rw [hdef, if_neg (by omega)]
    clear hdef
    go_enter Try.func40, Try.ntmps40
    go_wp2_with (first | (go_at_call 89; refine (s_IsPolynomial _ _ _ xs _ B HN.out hl hs).mono ?_; rintro e w' ⟨rfl, nq, rfl⟩; rw [h1]) | (go_at_call 90; refine (s_IsModerate _ _ _ xs _ B HN.out hl (hs.drewN _)).mono ?_; rintro e w' ⟨rfl, nq, rfl⟩; rw [h2]))
    go_ret
    exact ⟨ret_int HX.out.symm, by first | exact dq1 | exact dq2⟩
  have h3' : lo ≤ (n : Int) - 1 := by omega
  clear h3
  by_cases h4 : hi < (n : Int) - 1
  · have HX : Hid (codeM xs lo hi = 5) := by unfold Hid; rw [hdef, if_neg (by omega)]
    clear hdef
    go_enter Try.func40, Try.ntmps40
    go_wp2_with (first | (go_at_call 89; refine (s_IsPolynomial _ _ _ xs _ B HN.out hl hs).mono ?_; rintro e w' ⟨rfl, nq, rfl⟩; rw [h1]) | (go_at_call 90; refine (s_IsModerate _ _ _ xs _ B HN.out hl (hs.drewN _)).mono ?_; rintro e w' ⟨rfl, nq, rfl⟩; rw [h2]))
    go_ret
    exact ⟨ret_int HX.out.symm, by first | exact dq1 | exact dq2⟩
  have h4' : (n : Int) - 1 ≤ hi := by omega
  clear h4
  have HX : Hid (codeM xs lo hi = 0) := by unfold Hid; rw [hdef, if_pos (by omega)]
  clear hdef
  go_enter Try.func40, Try.ntmps40
  go_wp2_with (first | (go_at_call 89; refine (s_IsPolynomial _ _ _ xs _ B HN.out hl hs).mono ?_; rintro e w' ⟨rfl, nq, rfl⟩; rw [h1]) | (go_at_call 90; refine (s_IsModerate _ _ _ xs _ B HN.out hl (hs.drewN _)).mono ?_; rintro e w' ⟨rfl, nq, rfl⟩; rw [h2]))
  go_ret
  exact ⟨ret_int HX.out.symm, by first | exact dq1 | exact dq2⟩
set_option maxHeartbeats 1000000 in
theorem i_moderate (A : Option Addr) (n c : Nat) (xs : List Int) (lo hi : Int) (w : World) (B : Nat) (hn : n = xs.length) (hl : n ≤ 1048576) (hs : IS w B A xs) :
    Calls Try.prog 43 #[.slice A n c, .int .i64 lo, .int .i64 hi] w (Q (.int .i64 (codeM xs lo hi)) w) := by
  have HN := Lib.hid hn
  clear hn
  have hdef : codeM xs lo hi = if polyB xs then (if modB xs then (if lo ≤ (xs.length : Int) - 1 ∧ (xs.length : Int) - 1 ≤ hi then 0 else 5) else 2) else 1 := rfl
  rw [← HN.out] at hdef
  cases h1 : polyB xs
  · rw [h1] at hdef
    have HX := Lib.hid hdef
    clear hdef
    go_enter Try.func43, Try.ntmps43
    go_wp2_with (first | (go_at_call 92; refine (i_IsPolynomial _ _ _ xs _ B HN.out hl hs).mono ?_; rintro e w' ⟨rfl, nq, rfl⟩; rw [h1]))
    go_ret
    exact ⟨ret_int (by rw [HX.out]; simp), dq1⟩
  cases h2 : modB xs
  · rw [h1, h2] at hdef
    have HX := Lib.hid hdef
    clear hdef
    go_enter Try.func43, Try.ntmps43
    go_wp2_with (first | (go_at_call 92; refine (i_IsPolynomial _ _ _ xs _ B HN.out hl hs).mono ?_; rintro e w' ⟨rfl, nq, rfl⟩; rw [h1]) | (go_at_call 93; refine (i_IsModerate _ _ _ xs _ B HN.out hl (hs.drewN _)).mono ?_; rintro e w' ⟨rfl, nq, rfl⟩; rw [h2]))
    go_ret
    exact ⟨ret_int (by rw [HX.out]; simp), by first | exact dq1 | exact dq2⟩
  rw [h1, h2] at hdef
  simp only [if_true] at hdef
  cases h5 : inB ((n : Int) - 1) lo hi
  · have HX : Hid (codeM xs lo hi = 5) := by
      unfold Hid; rw [hdef, if_neg (fun h => by rw [inB_mk h.1 h.2] at h5; cases h5)]
    clear hdef
    go_enter Try.func43, Try.ntmps43
    go_wp2_with (first | (go_at_call 92; refine (i_IsPolynomial _ _ _ xs _ B HN.out hl hs).mono ?_; rintro e w' ⟨rfl, nq, rfl⟩; rw [h1]) | (go_at_call 93; refine (i_IsModerate _ _ _ xs _ B HN.out hl (hs.drewN _)).mono ?_; rintro e w' ⟨rfl, nq, rfl⟩; rw [h2]) | (go_at_call 44; refine (i_degree _ _ _ _ hl).mono ?_; rintro e w' ⟨rfl, nq, rfl⟩) | (go_at_call 53; refine (i_within _ _ _ _).mono ?_; rintro e w' ⟨rfl, nq, rfl⟩; rw [h5]))
    go_ret
    exact ⟨ret_int HX.out.symm, by first | exact dq1 | exact dq2⟩
  · have HX : Hid (codeM xs lo hi = 0) := by
      unfold Hid; rw [hdef, if_pos (inB_true h5)]
    clear hdef
    go_enter Try.func43, Try.ntmps43
    go_wp2_with (first | (go_at_call 92; refine (i_IsPolynomial _ _ _ xs _ B HN.out hl hs).mono ?_; rintro e w' ⟨rfl, nq, rfl⟩; rw [h1]) | (go_at_call 93; refine (i_IsModerate _ _ _ xs _ B HN.out hl (hs.drewN _)).mono ?_; rintro e w' ⟨rfl, nq, rfl⟩; rw [h2]) | (go_at_call 44; refine (i_degree _ _ _ _ hl).mono ?_; rintro e w' ⟨rfl, nq, rfl⟩) | (go_at_call 53; refine (i_within _ _ _ _).mono ?_; rintro e w' ⟨rfl, nq, rfl⟩; rw [h5]))
    go_ret
    exact ⟨ret_int HX.out.symm, by first | exact dq1 | exact dq2⟩
/-- What a call gives that returns a slice of its own and a code. -/
def RS (l : List Int) (c : Int) (w : World) (e : Ending) (w' : World) : Prop :=
  ∃ A cap, e = .returned (.tuple #[.slice A l.length cap, .int .i64 c]) ∧ w'.ownsRow w.heap.size 2 1 (.slice A l.length cap) l.length (ints l) ∧ Below w.heap.size w w'
theorem RS.nil {w w' : World} {c : Int} (hb : Below w.heap.size w w') : RS [] c w (.returned (.tuple #[.slice none 0 0, .int .i64 c])) w' :=
  ⟨none, 0, rfl, World.ownsRow_nil _ _ _ _, hb⟩
theorem RS.lit {w : World} {c : Int} (l : List Int) (hm : l.length ≤ maxLen) : RS l c w (.returned (.tuple #[.slice (some ⟨w.heap.size, 0, none⟩) l.length l.length, .int .i64 c])) (w.alloc (.cells (ints l).toArray 2)) := by
  refine ⟨_, _, rfl, ?_, (Below.refl _ _).alloc (Nat.le_refl _) _⟩
  have h := World.ownsRow_lit (base := w.heap.size) (size := 1) (e := 2) w (ints l).toArray l.length (Nat.le_refl _) hm (by simp [ints])
  simpa using h
theorem RS.pre {w w1 : World} {l : List Int} {c : Int} {e : Ending} {w' : World} (h : RS l c w1 e w') (hb : Below w.heap.size w w1) : RS l c w e w' := by
  obtain ⟨A, cap, h1, h2, h3⟩ := h
  exact ⟨A, cap, h1, own_mono h2 hb.size, bel_call hb h3⟩
theorem RS.drewN {w w' : World} {l : List Int} {c : Int} {e : Ending} (h : RS l c w e w') (n : Nat) : RS l c w e (w'.drewN n) := by
  obtain ⟨A, cap, h1, h2, h3⟩ := h
  exact ⟨A, cap, h1, h2, below_drewN h3 n⟩
noncomputable def spL (xs : List Int) : List Int := if codeM xs 3 3 = 0 then [gt xs 2 * gt xs 1 - gt xs 0, gt xs 2 * gt xs 2 + gt xs 1, 2 * gt xs 2, 1] else []
end Go.Proofs.Ytcbjfdeigpdbdaa

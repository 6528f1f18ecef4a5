/- Contracts and walks: AbsoluteAt. -/
import Derived.Test.YtlhkpepnklbnfaaA22
namespace Go.Proofs.Ytlhkpepnklbnfaa
set_option linter.unusedVariables false
set_option linter.unusedSimpArgs false
open Go.RowKit

noncomputable def rcode (a b : Int) : Int := if ratB a b then (if a = 0 then 5 else 0) else 1
theorem ratB_bd {a b : Int} (h : ratB a b = true) : -1000000000000 ≤ a ∧ a ≤ 1000000000000 ∧ 1 ≤ b ∧ b ≤ 1000000000000 ∧ Int.gcd a b = 1 := by
  unfold ratB at h
  simp only [Bool.and_eq_true, beq_iff_eq] at h
  have h1 := valB_true h.1
  have h2 := inB_true h.2.1
  have h3 := h.2.2
  omega
set_option maxHeartbeats 400000 in
theorem s_l31Code (a b : Int) (w : World) : Calls Try.prog 70 #[.agg #[.int .i64 a, .int .i64 b]] w (M (.int .i64 (rcode a b)) w) := by
  cases h1 : ratB a b
  · have HX : Hid (rcode a b = 1) := by unfold Hid rcode; rw [h1]; rfl
    go_enter Try.func70, Try.ntmps70
    go_wp2_with (first | (go_at_call 52; refine (s_IsRational _ _ _).mono ?_; rintro e w' ⟨rfl, hb⟩; have hc0 := hb.cell (p := ⟨w.heap.size, 0, none⟩) (by simp); have hc1 := hb.cell (p := ⟨w.heap.size, 1, none⟩) (by simp); simp [go_sem] at hc0 hc1; rw [h1]))
    go_ret
    exact ⟨ret_int HX.out.symm, bel_call ((Below.refl _ _).alloc (Nat.le_refl _) _) hb⟩
  · have HX : Hid (rcode a b = if a = 0 then 5 else 0) := by unfold Hid rcode; rw [h1]; rfl
    by_cases h0 : a = 0
    · subst h0
      go_enter Try.func70, Try.ntmps70
      go_wp2_with (first | (go_at_call 52; refine (s_IsRational _ _ _).mono ?_; rintro e w' ⟨rfl, hb⟩; have hc0 := hb.cell (p := ⟨w.heap.size, 0, none⟩) (by simp); have hc1 := hb.cell (p := ⟨w.heap.size, 1, none⟩) (by simp); simp [go_sem] at hc0 hc1; rw [h1]))
      go_ret
      exact ⟨ret_int (by rw [HX.out]; rfl), bel_call ((Below.refl _ _).alloc (Nat.le_refl _) _) hb⟩
    · have hx : (a == 0) = false := by simpa using h0
      go_enter Try.func70, Try.ntmps70
      go_wp2_with (first | (go_at_call 52; refine (s_IsRational _ _ _).mono ?_; rintro e w' ⟨rfl, hb⟩; have hc0 := hb.cell (p := ⟨w.heap.size, 0, none⟩) (by simp); have hc1 := hb.cell (p := ⟨w.heap.size, 1, none⟩) (by simp); simp [go_sem] at hc0 hc1; rw [h1]))
      go_ret
      exact ⟨ret_int (by rw [HX.out, if_neg h0]), bel_call ((Below.refl _ _).alloc (Nat.le_refl _) _) hb⟩
set_option maxHeartbeats 400000 in
theorem i_nonzero (a b : Int) (w : World) : Calls Try.prog 76 #[.agg #[.int .i64 a, .int .i64 b]] w (M (.int .i64 (rcode a b)) w) := by
  cases h1 : ratB a b
  · have HX : Hid (rcode a b = 1) := by unfold Hid rcode; rw [h1]; rfl
    go_enter Try.func76, Try.ntmps76
    go_wp2_with (first | (go_at_call 56; refine (i_IsRational _ _ _).mono ?_; rintro e w' ⟨rfl, hb⟩; have hc0 := hb.cell (p := ⟨w.heap.size, 0, none⟩) (by simp); have hc1 := hb.cell (p := ⟨w.heap.size, 1, none⟩) (by simp); simp [go_sem] at hc0 hc1; rw [h1]))
    go_ret
    exact ⟨ret_int HX.out.symm, bel_call ((Below.refl _ _).alloc (Nat.le_refl _) _) hb⟩
  · have HX : Hid (rcode a b = if a = 0 then 5 else 0) := by unfold Hid rcode; rw [h1]; rfl
    by_cases h0 : a = 0
    · subst h0
      go_enter Try.func76, Try.ntmps76
      go_wp2_with (first | (go_at_call 56; refine (i_IsRational _ _ _).mono ?_; rintro e w' ⟨rfl, hb⟩; have hc0 := hb.cell (p := ⟨w.heap.size, 0, none⟩) (by simp); have hc1 := hb.cell (p := ⟨w.heap.size, 1, none⟩) (by simp); simp [go_sem] at hc0 hc1; rw [h1]))
      go_ret
      exact ⟨ret_int (by rw [HX.out]; rfl), bel_call ((Below.refl _ _).alloc (Nat.le_refl _) _) hb⟩
    · have hx : (a == 0) = false := by simpa using h0
      go_enter Try.func76, Try.ntmps76
      go_wp2_with (first | (go_at_call 56; refine (i_IsRational _ _ _).mono ?_; rintro e w' ⟨rfl, hb⟩; have hc0 := hb.cell (p := ⟨w.heap.size, 0, none⟩) (by simp); have hc1 := hb.cell (p := ⟨w.heap.size, 1, none⟩) (by simp); simp [go_sem] at hc0 hc1; rw [h1]))
      go_ret
      exact ⟨ret_int (by rw [HX.out, if_neg h0]), bel_call ((Below.refl _ _).alloc (Nat.le_refl _) _) hb⟩
noncomputable def vcode (a b p : Int) : Int := if smallB p then rcode a b else 1
noncomputable def vV (a b p : Int) : Int := if vcode a b p = 0 then (val p.toNat a.natAbs : Int) - (val p.toNat b.natAbs : Int) else 0
theorem vcode_0 {a b p : Int} (h : vcode a b p = 0) : smallB p = true ∧ ratB a b = true ∧ a ≠ 0 := by
  unfold vcode rcode at h
  cases h1 : smallB p <;> cases h2 : ratB a b <;> rw [h1, h2] at h <;> simp at h
  exact ⟨rfl, rfl, h⟩
theorem val_le40 {p n : Nat} (hp : 2 ≤ p) (h0 : 0 < n) (hn : n ≤ 1000000000000) : val p n ≤ 40 := by
  rcases Nat.lt_or_ge 40 (val p n) with h | h
  · have h1 := pow_val_le hp h0
    have h2 : 2 ^ 41 ≤ 2 ^ val p n := Nat.pow_le_pow_right (by omega) h
    have h3 : 2 ^ val p n ≤ p ^ val p n := Nat.pow_le_pow_left hp _
    omega
  · exact h
set_option maxHeartbeats 1000000 in
theorem i_RationalValuation (a b p : Int) (w : World) : Calls Try.prog 72 #[.agg #[.int .i64 a, .int .i64 b], .int .i64 p] w (M2 (vV a b p) (vcode a b p) w) := by
  cases h1 : ratB a b
  · have HX : Hid (vcode a b p = 1) := by unfold Hid vcode rcode; rw [h1]; split <;> rfl
    have HV : Hid (vV a b p = 0) := by unfold Hid vV; rw [HX.out]; rfl
    go_enter Try.func72, Try.ntmps72
    go_wp2_with (first | (go_at_call 56; refine (i_IsRational _ _ _).mono ?_; rintro e w' ⟨rfl, hb⟩; have hc0 := hb.cell (p := ⟨w.heap.size, 0, none⟩) (by simp); have hc1 := hb.cell (p := ⟨w.heap.size, 1, none⟩) (by simp); simp [go_sem] at hc0 hc1; rw [h1]))
    go_ret2
    exact ⟨ret_ii HV.out.symm HX.out.symm, bel_call ((Below.refl _ _).alloc (Nat.le_refl _) _) hb⟩
  cases h2 : smallB p
  · have HX : Hid (vcode a b p = 1) := by unfold Hid vcode; rw [h2]; rfl
    have HV : Hid (vV a b p = 0) := by unfold Hid vV; rw [HX.out]; rfl
    go_enter Try.func72, Try.ntmps72
    go_wp2_with (first | (go_at_call 56; refine (i_IsRational _ _ _).mono ?_; rintro e w' ⟨rfl, hb⟩; have hc0 := hb.cell (p := ⟨w.heap.size, 0, none⟩) (by simp); have hc1 := hb.cell (p := ⟨w.heap.size, 1, none⟩) (by simp); simp [go_sem] at hc0 hc1; rw [h1]) | (go_at_call 57; refine (i_isSmallPrime _ _).mono ?_; rintro e w' ⟨rfl, nq, rfl⟩; rw [h2]))
    go_ret2
    exact ⟨ret_ii HV.out.symm HX.out.symm, below_drewN (bel_call ((Below.refl _ _).alloc (Nat.le_refl _) _) hb) _⟩
  by_cases h0 : a = 0
  · subst h0
    have HX : Hid (vcode 0 b p = 5) := by unfold Hid vcode rcode; rw [h1, h2]; rfl
    have HV : Hid (vV 0 b p = 0) := by unfold Hid vV; rw [HX.out]; rfl
    go_enter Try.func72, Try.ntmps72
    go_wp2_with (first | (go_at_call 56; refine (i_IsRational _ _ _).mono ?_; rintro e w' ⟨rfl, hb⟩; have hc0 := hb.cell (p := ⟨w.heap.size, 0, none⟩) (by simp); have hc1 := hb.cell (p := ⟨w.heap.size, 1, none⟩) (by simp); simp [go_sem] at hc0 hc1; rw [h1]) | (go_at_call 57; refine (i_isSmallPrime _ _).mono ?_; rintro e w' ⟨rfl, nq, rfl⟩; rw [h2]))
    go_ret2
    exact ⟨ret_ii HV.out.symm HX.out.symm, below_drewN (bel_call ((Below.refl _ _).alloc (Nat.le_refl _) _) hb) _⟩
  · have hx : (a == 0) = false := by simpa using h0
    have HX : Hid (vcode a b p = 0) := by unfold Hid vcode rcode; rw [h1, h2]; simp [h0]
    have HV : Hid (vV a b p = (val p.toNat a.natAbs : Int) - (val p.toNat b.natAbs : Int)) := by unfold Hid vV; rw [if_pos HX.out]
    obtain ⟨b1, b2, b3, b4, _⟩ := ratB_bd h1
    obtain ⟨p1, p2⟩ := smallB_t h2
    have v1 := val_le40 (p := p.toNat) (n := a.natAbs) (by omega) (by omega) (by omega)
    have v2 := val_le40 (p := p.toNat) (n := b.natAbs) (by omega) (by omega) (by omega)
    have hb0 : b ≠ 0 := by omega
    have H0 := Lib.hid h0
    have HB0 := Lib.hid hb0
    clear h0 hb0
    go_enter Try.func72, Try.ntmps72
    go_wp2_with (first | (go_at_call 56; refine (i_IsRational _ _ _).mono ?_; rintro e w' ⟨rfl, hb⟩; have hc0 := hb.cell (p := ⟨w.heap.size, 0, none⟩) (by simp); have hc1 := hb.cell (p := ⟨w.heap.size, 1, none⟩) (by simp); simp [go_sem] at hc0 hc1; rw [h1]) | (go_at_call 57; refine (i_isSmallPrime _ _).mono ?_; rintro e w' ⟨rfl, nq, rfl⟩; rw [h2]))
    obtain ⟨wo, hwo⟩ : ∃ wo : World, wo = w'.drewN nq := ⟨_, rfl⟩
    have hd0 : wo.cell? ⟨w.heap.size, 0, none⟩ = some (.int .i64 a) := by rw [hwo]; exact hc0
    have hd1 : wo.cell? ⟨w.heap.size, 1, none⟩ = some (.int .i64 b) := by rw [hwo]; exact hc1
    have hbo : Below w.heap.size w wo := by rw [hwo]; exact below_drewN (bel_call ((Below.refl _ _).alloc (Nat.le_refl _) _) hb) _
    rw [← hwo]
    clear hwo hc0 hc1 hb
    go_wp2_with (first | go_quiet ((first | (go_at_call 59; exact Calls.quiet_of (i_valuation _ _ _ (by omega) (by omega) (by first | exact H0.out | exact HB0.out) p1 p2)))))
    go_ret2
    exact ⟨ret_ii HV.out.symm HX.out.symm, below_drewN hbo _⟩
end Go.Proofs.Ytlhkpepnklbnfaa

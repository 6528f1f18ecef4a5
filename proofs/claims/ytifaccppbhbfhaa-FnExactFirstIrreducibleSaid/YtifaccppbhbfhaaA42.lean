/- Contracts: Bezout, inverses. -/
import Derived.Test.YtifaccppbhbfhaaA41
namespace Go.Proofs.Ytifaccppbhbfhaa
set_option linter.unusedVariables false
set_option linter.unusedSimpArgs false
open Go.RowKit

/-- The first number of Bezout: the column that begins with x, u. -/
def bzx (r s : Nat) (x u : Int) : Int := if h : s = 0 then x else bzx s (r % s) u (x - ((r / s : Nat) : Int) * u)
termination_by s
decreasing_by exact Nat.mod_lt _ (by omega)
theorem bzx_0 (r : Nat) (x u : Int) : bzx r 0 x u = x := by rw [bzx, dif_pos rfl]
theorem bzx_s {r s : Nat} (x u : Int) (h : s ≠ 0) : bzx r s x u = bzx s (r % s) u (x - ((r / s : Nat) : Int) * u) := by rw [bzx, dif_neg h]
/-- What bounds a column: |u| r + |x| s does not change. -/
def BzI (C M r s : Nat) (x u : Int) : Prop := ∃ X U : Nat, ((x = X ∧ u = -(U : Int)) ∨ (x = -(X : Int) ∧ u = U)) ∧ U * r + X * s = C ∧ X ≤ M ∧ U ≤ M
theorem BzI.bd {C M r s : Nat} {x u : Int} (h : BzI C M r s x u) : (-(M : Int) ≤ x ∧ x ≤ M) ∧ (-(M : Int) ≤ u ∧ u ≤ M) := by
  obtain ⟨X, U, h1, _, h3, h4⟩ := h
  omega
theorem BzI.step {C M r s : Nat} {x u : Int} (h : BzI C M r s x u) (hC : C ≤ M) (hs : 0 < s) :
    BzI C M s (r % s) u (x - ((r / s : Nat) : Int) * u) ∧ (-(M : Int) ≤ ((r / s : Nat) : Int) * u ∧ ((r / s : Nat) : Int) * u ≤ M) := by
  obtain ⟨X, U, h1, h2, h3, h4⟩ := h
  have e1 : (X + (r / s) * U) * s + U * (r % s) = C := by
    rw [← h2]
    have e2 := Nat.div_add_mod r s
    have e3 : (r / s) * U * s + U * (r % s) = U * r := by
      conv => rhs; rw [← e2, Nat.mul_add]
      congr 1
      rw [Nat.mul_comm (r / s) U, Nat.mul_assoc, Nat.mul_comm (r / s) s]
    rw [Nat.add_mul]
    omega
  have e4 : X + (r / s) * U ≤ C := by
    have : (X + (r / s) * U) * 1 ≤ (X + (r / s) * U) * s := Nat.mul_le_mul_left _ hs
    omega
  have e5 : ((r / s : Nat) : Int) * (U : Int) = (((r / s) * U : Nat) : Int) := by rw [Int.natCast_mul]
  generalize hV : (r / s) * U = V at *
  rcases h1 with ⟨hx, hu⟩ | ⟨hx, hu⟩
  · have e6 : ((r / s : Nat) : Int) * u = -(V : Int) := by rw [hu, Int.mul_neg, e5]
    refine ⟨⟨U, X + V, .inr ⟨hu, ?_⟩, e1, h4, by omega⟩, ?_⟩
    · rw [e6]; omega
    · rw [e6]; omega
  · have e6 : ((r / s : Nat) : Int) * u = (V : Int) := by rw [hu, e5]
    refine ⟨⟨U, X + V, .inl ⟨hu, ?_⟩, e1, h4, by omega⟩, ?_⟩
    · rw [e6]; omega
    · rw [e6]; omega
theorem div_mul_le (r s : Nat) : 0 ≤ (r : Int) / (s : Int) * (s : Int) ∧ (r : Int) / (s : Int) * (s : Int) ≤ r := by
  have h : (r : Int) / (s : Int) * (s : Int) = ((r / s * s : Nat) : Int) := by simp
  have h2 := Nat.div_mul_le_self r s
  rw [h]; omega
theorem sub_div_mul (r s : Nat) : (r : Int) - (r : Int) / (s : Int) * (s : Int) = ((r % s : Nat) : Int) := by
  rw [Int.natCast_emod, Int.emod_def, Int.mul_comm]
theorem div_bd' (r s : Nat) : 0 ≤ (r : Int) / (s : Int) ∧ (r : Int) / (s : Int) ≤ r :=
  ⟨Int.ediv_nonneg (by omega) (by omega), Int.ediv_le_self _ (by omega)⟩
theorem bz_start (a b : Nat) (ha : a ≤ 1000000000000) (hb : b ≤ 1000000000000) : BzI b 1000000000000 a b 1 0 ∧ BzI a 1000000000000 a b 0 1 := by
  refine ⟨⟨1, 0, .inl ⟨rfl, rfl⟩, by simp, by omega, by omega⟩, ⟨0, 1, .inr ⟨rfl, rfl⟩, by simp, by omega, by omega⟩⟩
set_option maxHeartbeats 2000000 in
theorem s_l01Bezout (a b : Nat) (w : World) (ha : a ≤ 1000000000000) (hb : b ≤ 1000000000000) : Calls Try.prog 88 #[.int .i64 a, .int .i64 b] w (Q (.tuple #[.int .i64 (bzx a b 1 0), .int .i64 (bzx a b 0 1)]) w) := by
  have HST := Lib.hid (bz_start a b ha hb)
  go_enter Try.func88, Try.ntmps88
  go_wp2_with (fail)
  go_loop [6, 7, 8, 9, 10, 11] (fun u6 u7 u8 u9 u10 u11 => ∃ (r s : Nat) (x u y v : Int), r ≤ 1000000000000 ∧ s ≤ 1000000000000 ∧ u6 = .int .i64 r ∧ u7 = .int .i64 x ∧ u8 = .int .i64 y ∧ u9 = .int .i64 s ∧ u10 = .int .i64 u ∧ u11 = .int .i64 v ∧ Hid (BzI b 1000000000000 r s x u ∧ BzI a 1000000000000 r s y v) ∧ Hid (bzx r s x u = bzx a b 1 0 ∧ bzx r s y v = bzx a b 0 1)) (fun _ _ _ u9 _ _ => (intOf u9).toNat)
  case atStart => exact ⟨a, b, 1, 0, 0, 1, ha, hb, rfl, rfl, rfl, rfl, rfl, rfl, HST.out, ⟨rfl, rfl⟩⟩
  case round =>
    obtain ⟨r, s, x, u, y, v, hr, hs, rfl, rfl, rfl, rfl, rfl, rfl, HI, HF⟩ := hrel
    obtain ⟨⟨x1, x2⟩, ⟨u1, u2⟩⟩ := HI.out.1.bd
    obtain ⟨⟨y1, y2⟩, ⟨v1, v2⟩⟩ := HI.out.2.bd
    simp only [Int.cast_ofNat_Int] at x1 x2 u1 u2 y1 y2 v1 v2
    by_cases h0 : s = 0
    · subst h0
      have HX : Hid (x = bzx a b 1 0) := by have := HF.out.1; rw [bzx_0] at this; exact this
      have HY : Hid (y = bzx a b 0 1) := by have := HF.out.2; rw [bzx_0] at this; exact this
      go_wp2_with (fail)
      go_ret2
      exact ⟨ret_ii HX.out HY.out, 0, rfl⟩
    · have hst1 := HI.out.1.step (by omega) (by omega)
      have hst2 := HI.out.2.step (by omega) (by omega)
      obtain ⟨⟨x3, x4⟩, ⟨u3, u4⟩⟩ := hst1.1.bd
      obtain ⟨⟨y3, y4⟩, ⟨v3, v4⟩⟩ := hst2.1.bd
      obtain ⟨q1, q2⟩ := hst1.2
      obtain ⟨q3, q4⟩ := hst2.2
      have d1 := div_mul_le r s
      have d2 := sub_div_mul r s
      have d3 := div_bd' r s
      have hml := Nat.mod_lt r (show 0 < s by omega)
      have hs1 : (s : Int) ≠ 0 := by omega
      have hs2 : ((s : Int) != 0) = true := by rw [bne_iff_ne]; omega
      simp only [Int.cast_ofNat_Int, Int.natCast_ediv] at u3 u4 v3 v4 q1 q2 q3 q4
      have HF1 : Hid (bzx s (r % s) u (x - (r : Int) / (s : Int) * u) = bzx a b 1 0) := hidP (by have := HF.out.1; rw [bzx_s _ _ h0] at this; simpa using this)
      have HF2 : Hid (bzx s (r % s) v (y - (r : Int) / (s : Int) * v) = bzx a b 0 1) := hidP (by have := HF.out.2; rw [bzx_s _ _ h0] at this; simpa using this)
      have HI1 : Hid (BzI b 1000000000000 s (r % s) u (x - (r : Int) / (s : Int) * u) ∧ BzI a 1000000000000 s (r % s) v (y - (r : Int) / (s : Int) * v)) := by
        have h1 := hst1.1
        have h2 := hst2.1
        simp only [Int.natCast_ediv] at h1 h2
        exact ⟨h1, h2⟩
      have D2 := Lib.hid d2
      have HM := Lib.hid hml
      have H0 := Lib.hid h0
      clear hst1 hst2 d2 hml h0 x3 x4 y3 y4
      go_wp2_with (fail)
      go_round
      case rel =>
        refine ⟨s, r % s, u, x - (r : Int) / (s : Int) * u, v, y - (r : Int) / (s : Int) * v, hs, by have := HM.out; omega, rfl, rfl, rfl, by rw [D2.out], rfl, rfl, HI1.out, ⟨HF1.out, HF2.out⟩⟩
      case measure => simp only [intOf]; rw [D2.out]; have := HM.out; omega
theorem ret_iii {a b c a' b' c' : Int} (h1 : a = a') (h2 : b = b') (h3 : c = c') : Ending.returned (.tuple #[.int .i64 a, .int .i64 b, .int .i64 c]) = .returned (.tuple #[.int .i64 a', .int .i64 b', .int .i64 c']) := by rw [h1, h2, h3]
theorem valB_nat {a : Nat} (ha : a ≤ 1000000000000) : valB (a : Int) = true := inB_mk (by omega) (by omega)
set_option maxHeartbeats 2000000 in
theorem i_Bezout (a b : Nat) (w : World) (ha : a ≤ 1000000000000) (hb : b ≤ 1000000000000) : Calls Try.prog 106 #[.int .i64 a, .int .i64 b] w (Q (.tuple #[.int .i64 (bzx a b 1 0), .int .i64 (bzx a b 0 1), .int .i64 0]) w) := by
  have HST := Lib.hid (bz_start a b ha hb)
  have k1 := valB_nat ha
  have k2 := valB_nat hb
  go_enter Try.func106, Try.ntmps106
  go_wp2_with (go_at_call 116; refine (i_isValue _ _).mono ?_; rintro e w' ⟨rfl, nq, rfl⟩; first | rw [k1] | rw [k2])
  obtain ⟨wo, hwo⟩ : ∃ wo : World, wo = (w.drewN nq) := ⟨_, rfl⟩
  go_loopw [7, 8, 9, 10, 11, 12] (fun u6 u7 u8 u9 u10 u11 wr => ∃ (r s : Nat) (x u y v : Int), r ≤ 1000000000000 ∧ s ≤ 1000000000000 ∧ u6 = .int .i64 r ∧ u7 = .int .i64 x ∧ u8 = .int .i64 y ∧ u9 = .int .i64 s ∧ u10 = .int .i64 u ∧ u11 = .int .i64 v ∧ Hid (BzI b 1000000000000 r s x u ∧ BzI a 1000000000000 r s y v) ∧ Hid (bzx r s x u = bzx a b 1 0 ∧ bzx r s y v = bzx a b 0 1) ∧ DR w wr) (fun _ _ _ u9 _ _ _ => (intOf u9).toNat)
  case atStart => exact ⟨a, b, 1, 0, 0, 1, ha, hb, rfl, rfl, rfl, rfl, rfl, rfl, HST.out, ⟨rfl, rfl⟩, by repeat (first | exact DR.refl _ | refine DR.step ?_ _)⟩
  case round =>
    clear hwo
    obtain ⟨r, s, x, u, y, v, hr, hs, rfl, rfl, rfl, rfl, rfl, rfl, HI, HF, hdr⟩ := hrel
    obtain ⟨⟨x1, x2⟩, ⟨u1, u2⟩⟩ := HI.out.1.bd
    obtain ⟨⟨y1, y2⟩, ⟨v1, v2⟩⟩ := HI.out.2.bd
    simp only [Int.cast_ofNat_Int] at x1 x2 u1 u2 y1 y2 v1 v2
    by_cases h0 : s = 0
    · subst h0
      have HX : Hid (x = bzx a b 1 0) := by have := HF.out.1; rw [bzx_0] at this; exact this
      have HY : Hid (y = bzx a b 0 1) := by have := HF.out.2; rw [bzx_0] at this; exact this
      go_wp2_with (fail)
      refine bodyPost_ret (v := .tuple #[.int .i64 x, .int .i64 y, .int .i64 0]) (by simp [results, Try.results106, go_sem]) rfl ?_
      exact ⟨ret_iii HX.out HY.out rfl, hdr⟩
    · have hst1 := HI.out.1.step (by omega) (by omega)
      have hst2 := HI.out.2.step (by omega) (by omega)
      obtain ⟨⟨x3, x4⟩, ⟨u3, u4⟩⟩ := hst1.1.bd
      obtain ⟨⟨y3, y4⟩, ⟨v3, v4⟩⟩ := hst2.1.bd
      obtain ⟨q1, q2⟩ := hst1.2
      obtain ⟨q3, q4⟩ := hst2.2
      have d1 := div_mul_le r s
      have d2 := sub_div_mul r s
      have d3 := div_bd' r s
      have hml := Nat.mod_lt r (show 0 < s by omega)
      have hs1 : (s : Int) ≠ 0 := by omega
      have hs2 : ((s : Int) != 0) = true := by rw [bne_iff_ne]; omega
      simp only [Int.cast_ofNat_Int, Int.natCast_ediv] at u3 u4 v3 v4 q1 q2 q3 q4
      have HF1 : Hid (bzx s (r % s) u (x - (r : Int) / (s : Int) * u) = bzx a b 1 0) := hidP (by have := HF.out.1; rw [bzx_s _ _ h0] at this; simpa using this)
      have HF2 : Hid (bzx s (r % s) v (y - (r : Int) / (s : Int) * v) = bzx a b 0 1) := hidP (by have := HF.out.2; rw [bzx_s _ _ h0] at this; simpa using this)
      have HI1 : Hid (BzI b 1000000000000 s (r % s) u (x - (r : Int) / (s : Int) * u) ∧ BzI a 1000000000000 s (r % s) v (y - (r : Int) / (s : Int) * v)) := by
        have h1 := hst1.1
        have h2 := hst2.1
        simp only [Int.natCast_ediv] at h1 h2
        exact ⟨h1, h2⟩
      have D2 := Lib.hid d2
      have HM := Lib.hid hml
      have H0 := Lib.hid h0
      clear hst1 hst2 d2 hml h0 x3 x4 y3 y4
      go_wp2_with (fail)
      go_roundw
      case rel =>
        refine ⟨s, r % s, u, x - (r : Int) / (s : Int) * u, v, y - (r : Int) / (s : Int) * v, hs, by have := HM.out; omega, rfl, rfl, rfl, by rw [D2.out], rfl, rfl, HI1.out, ⟨HF1.out, HF2.out⟩, hdr⟩
      case measure => simp only [intOf]; rw [D2.out]; have := HM.out; omega
end Go.Proofs.Ytifaccppbhbfhaa

/- Walks: ClosenessAt. -/
import Derived.Test.YthjoegoeaiemdaaA30
namespace Go.Proofs.Ythjoegoeaiemdaa
set_option linter.unusedVariables false
set_option linter.unusedSimpArgs false
open Go.RowKit

theorem cross_ne {a b c d : Int} (h1 : ratB a b = true) (h2 : ratB c d = true) (h : ¬ (a = c ∧ b = d)) : a * d - c * b ≠ 0 := by
  intro he
  obtain ⟨_, _, b3, _, g1⟩ := ratB_bd h1
  obtain ⟨_, _, d3, _, g2⟩ := ratB_bd h2
  have he' : a * d = c * b := by omega
  have n1 : a.natAbs * d.natAbs = c.natAbs * b.natAbs := by rw [← Int.natAbs_mul, ← Int.natAbs_mul, he']
  have e1 : b.natAbs ∣ d.natAbs := by
    refine Nat.Coprime.dvd_of_dvd_mul_left (m := a.natAbs) (n := d.natAbs) ?_ (by rw [n1]; exact Nat.dvd_mul_left _ _)
    show Nat.gcd _ _ = 1; rw [Nat.gcd_comm]; exact g1
  have e2 : d.natAbs ∣ b.natAbs := by
    refine Nat.Coprime.dvd_of_dvd_mul_left (m := c.natAbs) (n := b.natAbs) ?_ (by rw [← n1]; exact Nat.dvd_mul_left _ _)
    show Nat.gcd _ _ = 1; rw [Nat.gcd_comm]; exact g2
  have e3 := Nat.dvd_antisymm e1 e2
  have e4 : b = d := by omega
  subst e4
  have e5 : a = c := Int.eq_of_mul_eq_mul_right (by omega) he'
  exact h ⟨e5, rfl⟩
theorem cross_bd {a b c d : Int} (h1 : ratB a b = true) (h2 : ratB c d = true) (h : sm4 a b c d = true) : (-1000000000000 ≤ a * d ∧ a * d ≤ 1000000000000) ∧ (-1000000000000 ≤ c * b ∧ c * b ≤ 1000000000000) ∧ (1 ≤ b * d ∧ b * d ≤ 1000000000000) := by
  have hm : ∀ x y : Int, inB x (-1000000) 1000000 = true → inB y (-1000000) 1000000 = true → -1000000000000 ≤ x * y ∧ x * y ≤ 1000000000000 := by
    intro x y hx hy
    have hx := inB_true hx
    have hy := inB_true hy
    have : x.natAbs * y.natAbs ≤ 1000000 * 1000000 := Nat.mul_le_mul (by omega) (by omega)
    rw [← Int.natAbs_mul] at this
    omega
  unfold sm4 at h
  simp only [Bool.and_eq_true] at h
  obtain ⟨k1, k2, k3, k4⟩ := h
  obtain ⟨_, _, b3, _, _⟩ := ratB_bd h1
  obtain ⟨_, _, d3, _, _⟩ := ratB_bd h2
  have : 0 < b * d := Int.mul_pos (by omega) (by omega)
  exact ⟨hm _ _ k1 k4, hm _ _ k3 k2, by omega, (hm _ _ k2 k4).2⟩
def clOk (a b c d : Int) : Bool := decide (a = c) && decide (b = d)
noncomputable def clC (a b c d p : Int) : Int := if ratB a b && (ratB c d && smallB p) then (if clOk a b c d then 5 else twoC a b c d) else 1
noncomputable def clV (a b c d p : Int) : Int := if clC a b c d p = 0 then (val p.toNat (a * d - c * b).natAbs : Int) - (val p.toNat b.natAbs : Int) - (val p.toNat d.natAbs : Int) else 0
theorem val_split {b d p : Int} (hp : smallB p = true) (hb : 1 ≤ b) (hd : 1 ≤ d) : (val p.toNat (b * d).natAbs : Int) = (val p.toNat b.natAbs : Int) + (val p.toNat d.natAbs : Int) := by
  have h := smallB_prime hp
  have h2 := h.1
  obtain ⟨q, rfl⟩ := Int.eq_ofNat_of_zero_le (show 0 ≤ p by omega)
  rw [Int.toNat_natCast, Int.natAbs_mul, val_prod h (by omega) (by omega)]
  omega
set_option maxHeartbeats 2000000 in
theorem s_ClosenessAt (a b c d p : Int) (w : World) (hp0 : -9223372036854775808 ≤ p) : Calls Try.prog 57 #[.agg #[.int .i64 a, .int .i64 b], .agg #[.int .i64 c, .int .i64 d], .int .i64 p] w (M2 (clV a b c d p) (clC a b c d p) w) := by
  cases h1 : ratB a b
  · have HC : Hid (clC a b c d p = 1) := by unfold Hid clC; rw [h1]; rfl
    have HV : Hid (clV a b c d p = 0) := by unfold Hid clV; rw [HC.out]; rfl
    go_enter Try.func57, Try.ntmps57
    go_wp2_with (fail)
    obtain ⟨B1, B2⟩ := two_boxes w 61 61 #[.int .i64 a, .int .i64 b] #[.int .i64 c, .int .i64 d]
    refine (s_IsRational _ _ _).mono ?_
    rw [h1]
    rintro e w1 ⟨rfl, hb1⟩
    have q1 := bel_call (two_alloc w _ _) hb1
    obtain ⟨c1, c2, c3, c4⟩ := (B1.of_below hb1).two
    obtain ⟨d1, d2, d3, d4⟩ := (B2.of_below hb1).two
    have B3 := B1.of_below hb1
    have B4 := B2.of_below hb1
    clear B1 B2 hb1
    go_wp2_with (fail)
    go_ret2
    refine ⟨ret_ii HV.out.symm HC.out.symm, ?_⟩
    repeat (first | exact q1 | refine below_drewN ?_ _)
  cases h2 : ratB c d
  · have HC : Hid (clC a b c d p = 1) := by unfold Hid clC; rw [h1, h2]; rfl
    have HV : Hid (clV a b c d p = 0) := by unfold Hid clV; rw [HC.out]; rfl
    go_enter Try.func57, Try.ntmps57
    go_wp2_with (fail)
    obtain ⟨B1, B2⟩ := two_boxes w 61 61 #[.int .i64 a, .int .i64 b] #[.int .i64 c, .int .i64 d]
    refine (s_IsRational _ _ _).mono ?_
    rw [h1]
    rintro e w1 ⟨rfl, hb1⟩
    have q1 := bel_call (two_alloc w _ _) hb1
    obtain ⟨c1, c2, c3, c4⟩ := (B1.of_below hb1).two
    obtain ⟨d1, d2, d3, d4⟩ := (B2.of_below hb1).two
    have B3 := B1.of_below hb1
    have B4 := B2.of_below hb1
    clear B1 B2 hb1
    go_wp2_with (fail)
    refine (s_IsRational _ _ _).mono ?_
    rw [h2]
    rintro e w2 ⟨rfl, hb2⟩
    have q2 := bel_call q1 hb2
    clear c1 c2 c3 c4 d1 d2 d3 d4
    obtain ⟨c1, c2, c3, c4⟩ := (B3.of_below hb2).two
    obtain ⟨d1, d2, d3, d4⟩ := (B4.of_below hb2).two
    have B5 := B3.of_below hb2
    have B6 := B4.of_below hb2
    clear B3 B4 hb2 q1
    go_wp2_with (fail)
    go_ret2
    refine ⟨ret_ii HV.out.symm HC.out.symm, ?_⟩
    repeat (first | exact q2 | refine below_drewN ?_ _)
  cases h3 : smallB p
  · have HC : Hid (clC a b c d p = 1) := by unfold Hid clC; rw [h1, h2, h3]; rfl
    have HV : Hid (clV a b c d p = 0) := by unfold Hid clV; rw [HC.out]; rfl
    go_enter Try.func57, Try.ntmps57
    go_wp2_with (fail)
    obtain ⟨B1, B2⟩ := two_boxes w 61 61 #[.int .i64 a, .int .i64 b] #[.int .i64 c, .int .i64 d]
    refine (s_IsRational _ _ _).mono ?_
    rw [h1]
    rintro e w1 ⟨rfl, hb1⟩
    have q1 := bel_call (two_alloc w _ _) hb1
    obtain ⟨c1, c2, c3, c4⟩ := (B1.of_below hb1).two
    obtain ⟨d1, d2, d3, d4⟩ := (B2.of_below hb1).two
    have B3 := B1.of_below hb1
    have B4 := B2.of_below hb1
    clear B1 B2 hb1
    go_wp2_with (fail)
    refine (s_IsRational _ _ _).mono ?_
    rw [h2]
    rintro e w2 ⟨rfl, hb2⟩
    have q2 := bel_call q1 hb2
    clear c1 c2 c3 c4 d1 d2 d3 d4
    obtain ⟨c1, c2, c3, c4⟩ := (B3.of_below hb2).two
    obtain ⟨d1, d2, d3, d4⟩ := (B4.of_below hb2).two
    have B5 := B3.of_below hb2
    have B6 := B4.of_below hb2
    clear B3 B4 hb2 q1
    go_wp2_with (go_at_call 110; refine (s_l01Small _ _ hp0).mono ?_; rintro e w' ⟨rfl, nq, rfl⟩; rw [h3])
    go_ret2
    refine ⟨ret_ii HV.out.symm HC.out.symm, ?_⟩
    repeat (first | exact q2 | refine below_drewN ?_ _)
  by_cases h4 : a = c ∧ b = d
  · have HC : Hid (clC a b c d p = 5) := by unfold Hid clC clOk; rw [h1, h2, h3, h4.1, h4.2]; simp
    have HV : Hid (clV a b c d p = 0) := by unfold Hid clV; rw [HC.out]; rfl
    have e1 : (a == c) = true := by rw [beq_iff_eq]; exact h4.1
    have e2 : (b == d) = true := by rw [beq_iff_eq]; exact h4.2
    clear h4
    go_enter Try.func57, Try.ntmps57
    go_wp2_with (fail)
    obtain ⟨B1, B2⟩ := two_boxes w 61 61 #[.int .i64 a, .int .i64 b] #[.int .i64 c, .int .i64 d]
    refine (s_IsRational _ _ _).mono ?_
    rw [h1]
    rintro e w1 ⟨rfl, hb1⟩
    have q1 := bel_call (two_alloc w _ _) hb1
    obtain ⟨c1, c2, c3, c4⟩ := (B1.of_below hb1).two
    obtain ⟨d1, d2, d3, d4⟩ := (B2.of_below hb1).two
    have B3 := B1.of_below hb1
    have B4 := B2.of_below hb1
    clear B1 B2 hb1
    go_wp2_with (fail)
    refine (s_IsRational _ _ _).mono ?_
    rw [h2]
    rintro e w2 ⟨rfl, hb2⟩
    have q2 := bel_call q1 hb2
    clear c1 c2 c3 c4 d1 d2 d3 d4
    obtain ⟨c1, c2, c3, c4⟩ := (B3.of_below hb2).two
    obtain ⟨d1, d2, d3, d4⟩ := (B4.of_below hb2).two
    have B5 := B3.of_below hb2
    have B6 := B4.of_below hb2
    clear B3 B4 hb2 q1
    go_wp2_with (go_at_call 110; refine (s_l01Small _ _ hp0).mono ?_; rintro e w' ⟨rfl, nq, rfl⟩; rw [h3])
    go_ret2
    refine ⟨ret_ii HV.out.symm HC.out.symm, ?_⟩
    repeat (first | exact q2 | refine below_drewN ?_ _)
  have hok : clOk a b c d = false := by unfold clOk; rw [Bool.eq_false_iff]; intro h; simp at h; exact h4 h
  have hne := cross_ne h1 h2 h4
  have hor : (a == c) = false ∨ (b == d) = false := by
    by_cases hx : a = c
    · right; rw [beq_eq_false_iff_ne]; exact fun hy => h4 ⟨hx, hy⟩
    · left; rw [beq_eq_false_iff_ne]; exact hx
  clear h4
  cases h5 : sm4 a b c d
  · have HC : Hid (clC a b c d p = 2) := by unfold Hid clC twoC; rw [h1, h2, h3, hok, h5]; rfl
    have HV : Hid (clV a b c d p = 0) := by unfold Hid clV; rw [HC.out]; rfl
    have HTC : Hid (twoC a b c d = 2) := by unfold Hid twoC; rw [h5]; rfl
    clear hok hne
    rcases hor with heq | heq
    all_goals
      go_enter Try.func57, Try.ntmps57
      go_wp2_with (fail)
      obtain ⟨B1, B2⟩ := two_boxes w 61 61 #[.int .i64 a, .int .i64 b] #[.int .i64 c, .int .i64 d]
      refine (s_IsRational _ _ _).mono ?_
      rw [h1]
      rintro e w1 ⟨rfl, hb1⟩
      have q1 := bel_call (two_alloc w _ _) hb1
      obtain ⟨c1, c2, c3, c4⟩ := (B1.of_below hb1).two
      obtain ⟨d1, d2, d3, d4⟩ := (B2.of_below hb1).two
      have B3 := B1.of_below hb1
      have B4 := B2.of_below hb1
      clear B1 B2 hb1
      go_wp2_with (fail)
      refine (s_IsRational _ _ _).mono ?_
      rw [h2]
      rintro e w2 ⟨rfl, hb2⟩
      have q2 := bel_call q1 hb2
      clear c1 c2 c3 c4 d1 d2 d3 d4
      obtain ⟨c1, c2, c3, c4⟩ := (B3.of_below hb2).two
      obtain ⟨d1, d2, d3, d4⟩ := (B4.of_below hb2).two
      have B5 := B3.of_below hb2
      have B6 := B4.of_below hb2
      clear B3 B4 hb2 q1
      go_wp2_with (go_at_call 110; refine (s_l01Small _ _ hp0).mono ?_; rintro e w' ⟨rfl, nq, rfl⟩; rw [h3])
      refine (s_l05Two _ _ _ _ _ h1 h2).mono ?_
      rw [HTC.out]
      rintro e w4 ⟨rfl, hb4⟩
      have q4 := bel_call (below_drewN q2 nq) hb4
      go_wp2_with (fail)
      go_ret2
      refine ⟨ret_ii HV.out.symm HC.out.symm, ?_⟩
      repeat (first | exact q4 | refine below_drewN ?_ _)
  · have HC : Hid (clC a b c d p = 0) := by unfold Hid clC twoC; rw [h1, h2, h3, hok, h5]; rfl
    have HTC : Hid (twoC a b c d = 0) := by unfold Hid twoC; rw [h5]; rfl
    obtain ⟨⟨m1, m2⟩, ⟨m3, m4⟩, m5, m6⟩ := cross_bd h1 h2 h5
    obtain ⟨_, _, n3, n4, _⟩ := ratB_bd h1
    obtain ⟨_, _, n5, n6, _⟩ := ratB_bd h2
    obtain ⟨p1, p2⟩ := smallB_t h3
    have HV : Hid (clV a b c d p = (val p.toNat (a * d - c * b).natAbs : Int) - (val p.toNat b.natAbs : Int) - (val p.toNat d.natAbs : Int)) := by unfold Hid clV; rw [HC.out]; rfl
    have HS := Lib.hid (val_split h3 n3 n5)
    have v1 := val_le40 (p := p.toNat) (n := b.natAbs) (by omega) (by omega) (by omega)
    have v2 := val_le40 (p := p.toNat) (n := d.natAbs) (by omega) (by omega) (by omega)
    have v3 := val_le40 (p := p.toNat) (n := (b * d).natAbs) (by omega) (by omega) (by omega)
    have v4 : val p.toNat (a * d - c * b).natAbs ≤ 2000000000000 := by have := (val_bd (p := p.toNat) (n := (a * d - c * b).natAbs) (by omega) (by omega)).2.1; omega
    have HNE := Lib.hid hne
    have z1 : Hid (b ≠ 0) := by unfold Hid; omega
    have z2 : Hid (d ≠ 0) := by unfold Hid; omega
    have z3 : Hid (b * d ≠ 0) := by unfold Hid; omega
    clear hok hne
    rcases hor with heq | heq
    all_goals
      go_enter Try.func57, Try.ntmps57
      go_wp2_with (fail)
      obtain ⟨B1, B2⟩ := two_boxes w 61 61 #[.int .i64 a, .int .i64 b] #[.int .i64 c, .int .i64 d]
      refine (s_IsRational _ _ _).mono ?_
      rw [h1]
      rintro e w1 ⟨rfl, hb1⟩
      have q1 := bel_call (two_alloc w _ _) hb1
      obtain ⟨c1, c2, c3, c4⟩ := (B1.of_below hb1).two
      obtain ⟨d1, d2, d3, d4⟩ := (B2.of_below hb1).two
      have B3 := B1.of_below hb1
      have B4 := B2.of_below hb1
      clear B1 B2 hb1
      go_wp2_with (fail)
      refine (s_IsRational _ _ _).mono ?_
      rw [h2]
      rintro e w2 ⟨rfl, hb2⟩
      have q2 := bel_call q1 hb2
      clear c1 c2 c3 c4 d1 d2 d3 d4
      obtain ⟨c1, c2, c3, c4⟩ := (B3.of_below hb2).two
      obtain ⟨d1, d2, d3, d4⟩ := (B4.of_below hb2).two
      have B5 := B3.of_below hb2
      have B6 := B4.of_below hb2
      clear B3 B4 hb2 q1
      go_wp2_with (go_at_call 110; refine (s_l01Small _ _ hp0).mono ?_; rintro e w' ⟨rfl, nq, rfl⟩; rw [h3])
      refine (s_l05Two _ _ _ _ _ h1 h2).mono ?_
      rw [HTC.out]
      rintro e w4 ⟨rfl, hb4⟩
      have q4 := bel_call (below_drewN q2 nq) hb4
      obtain ⟨e1, e2, e3, e4⟩ := ((B5.drewN nq).of_below hb4).two
      obtain ⟨f1, f2, f3, f4⟩ := ((B6.drewN nq).of_below hb4).two
      clear c1 c2 c3 c4 d1 d2 d3 d4 hb4 q2 B5 B6
      go_wp2_with (fail)
      have k1 : IntKind.i64.wrap (a * d) = a * d := IntWalk.i64_in _ (by omega)
      have k2 : IntKind.i64.wrap (c * b) = c * b := IntWalk.i64_in _ (by omega)
      have k3 : IntKind.i64.wrap (b * d) = b * d := IntWalk.i64_in _ (by omega)
      have k4 : IntKind.i64.wrap (a * d - c * b) = a * d - c * b := IntWalk.i64_in _ (by omega)
      go_wp2_with (go_quiet ((go_at_call 116; exact Calls.quiet_of (s_l01Valuation _ _ _ (by omega) (by omega) (by first | exact HNE.out | exact z1.out | exact z2.out | exact z3.out) p1 p2))))
      go_ret2
      refine ⟨ret_ii (by first | (rw [HV.out]; done) | (rw [HV.out, HS.out]; omega)) HC.out.symm, ?_⟩
      repeat (first | exact q4 | refine below_drewN ?_ _)
set_option maxHeartbeats 2000000 in
theorem i_ClosenessAt (a b c d p : Int) (w : World) (hp0 : -9223372036854775808 ≤ p) : Calls Try.prog 56 #[.agg #[.int .i64 a, .int .i64 b], .agg #[.int .i64 c, .int .i64 d], .int .i64 p] w (M2 (clV a b c d p) (clC a b c d p) w) := by
  cases h1 : ratB a b
  · have HC : Hid (clC a b c d p = 1) := by unfold Hid clC; rw [h1]; rfl
    have HV : Hid (clV a b c d p = 0) := by unfold Hid clV; rw [HC.out]; rfl
    go_enter Try.func56, Try.ntmps56
    go_wp2_with (fail)
    obtain ⟨B1, B2⟩ := two_boxes w 61 61 #[.int .i64 a, .int .i64 b] #[.int .i64 c, .int .i64 d]
    refine (i_IsRational _ _ _).mono ?_
    rw [h1]
    rintro e w1 ⟨rfl, hb1⟩
    have q1 := bel_call (two_alloc w _ _) hb1
    obtain ⟨c1, c2, c3, c4⟩ := (B1.of_below hb1).two
    obtain ⟨d1, d2, d3, d4⟩ := (B2.of_below hb1).two
    have B3 := B1.of_below hb1
    have B4 := B2.of_below hb1
    clear B1 B2 hb1
    go_wp2_with (fail)
    go_ret2
    refine ⟨ret_ii HV.out.symm HC.out.symm, ?_⟩
    repeat (first | exact q1 | refine below_drewN ?_ _)
  cases h2 : ratB c d
  · have HC : Hid (clC a b c d p = 1) := by unfold Hid clC; rw [h1, h2]; rfl
    have HV : Hid (clV a b c d p = 0) := by unfold Hid clV; rw [HC.out]; rfl
    go_enter Try.func56, Try.ntmps56
    go_wp2_with (fail)
    obtain ⟨B1, B2⟩ := two_boxes w 61 61 #[.int .i64 a, .int .i64 b] #[.int .i64 c, .int .i64 d]
    refine (i_IsRational _ _ _).mono ?_
    rw [h1]
    rintro e w1 ⟨rfl, hb1⟩
    have q1 := bel_call (two_alloc w _ _) hb1
    obtain ⟨c1, c2, c3, c4⟩ := (B1.of_below hb1).two
    obtain ⟨d1, d2, d3, d4⟩ := (B2.of_below hb1).two
    have B3 := B1.of_below hb1
    have B4 := B2.of_below hb1
    clear B1 B2 hb1
    go_wp2_with (fail)
    refine (i_IsRational _ _ _).mono ?_
    rw [h2]
    rintro e w2 ⟨rfl, hb2⟩
    have q2 := bel_call q1 hb2
    clear c1 c2 c3 c4 d1 d2 d3 d4
    obtain ⟨c1, c2, c3, c4⟩ := (B3.of_below hb2).two
    obtain ⟨d1, d2, d3, d4⟩ := (B4.of_below hb2).two
    have B5 := B3.of_below hb2
    have B6 := B4.of_below hb2
    clear B3 B4 hb2 q1
    go_wp2_with (fail)
    go_ret2
    refine ⟨ret_ii HV.out.symm HC.out.symm, ?_⟩
    repeat (first | exact q2 | refine below_drewN ?_ _)
  cases h3 : smallB p
  · have HC : Hid (clC a b c d p = 1) := by unfold Hid clC; rw [h1, h2, h3]; rfl
    have HV : Hid (clV a b c d p = 0) := by unfold Hid clV; rw [HC.out]; rfl
    go_enter Try.func56, Try.ntmps56
    go_wp2_with (fail)
    obtain ⟨B1, B2⟩ := two_boxes w 61 61 #[.int .i64 a, .int .i64 b] #[.int .i64 c, .int .i64 d]
    refine (i_IsRational _ _ _).mono ?_
    rw [h1]
    rintro e w1 ⟨rfl, hb1⟩
    have q1 := bel_call (two_alloc w _ _) hb1
    obtain ⟨c1, c2, c3, c4⟩ := (B1.of_below hb1).two
    obtain ⟨d1, d2, d3, d4⟩ := (B2.of_below hb1).two
    have B3 := B1.of_below hb1
    have B4 := B2.of_below hb1
    clear B1 B2 hb1
    go_wp2_with (fail)
    refine (i_IsRational _ _ _).mono ?_
    rw [h2]
    rintro e w2 ⟨rfl, hb2⟩
    have q2 := bel_call q1 hb2
    clear c1 c2 c3 c4 d1 d2 d3 d4
    obtain ⟨c1, c2, c3, c4⟩ := (B3.of_below hb2).two
    obtain ⟨d1, d2, d3, d4⟩ := (B4.of_below hb2).two
    have B5 := B3.of_below hb2
    have B6 := B4.of_below hb2
    clear B3 B4 hb2 q1
    go_wp2_with (go_at_call 112; refine (i_isSmallPrime _ _ ).mono ?_; rintro e w' ⟨rfl, nq, rfl⟩; rw [h3])
    go_ret2
    refine ⟨ret_ii HV.out.symm HC.out.symm, ?_⟩
    repeat (first | exact q2 | refine below_drewN ?_ _)
  by_cases h4 : a = c ∧ b = d
  · have HC : Hid (clC a b c d p = 5) := by unfold Hid clC clOk; rw [h1, h2, h3, h4.1, h4.2]; simp
    have HV : Hid (clV a b c d p = 0) := by unfold Hid clV; rw [HC.out]; rfl
    have e1 : (a == c) = true := by rw [beq_iff_eq]; exact h4.1
    have e2 : (b == d) = true := by rw [beq_iff_eq]; exact h4.2
    clear h4
    go_enter Try.func56, Try.ntmps56
    go_wp2_with (fail)
    obtain ⟨B1, B2⟩ := two_boxes w 61 61 #[.int .i64 a, .int .i64 b] #[.int .i64 c, .int .i64 d]
    refine (i_IsRational _ _ _).mono ?_
    rw [h1]
    rintro e w1 ⟨rfl, hb1⟩
    have q1 := bel_call (two_alloc w _ _) hb1
    obtain ⟨c1, c2, c3, c4⟩ := (B1.of_below hb1).two
    obtain ⟨d1, d2, d3, d4⟩ := (B2.of_below hb1).two
    have B3 := B1.of_below hb1
    have B4 := B2.of_below hb1
    clear B1 B2 hb1
    go_wp2_with (fail)
    refine (i_IsRational _ _ _).mono ?_
    rw [h2]
    rintro e w2 ⟨rfl, hb2⟩
    have q2 := bel_call q1 hb2
    clear c1 c2 c3 c4 d1 d2 d3 d4
    obtain ⟨c1, c2, c3, c4⟩ := (B3.of_below hb2).two
    obtain ⟨d1, d2, d3, d4⟩ := (B4.of_below hb2).two
    have B5 := B3.of_below hb2
    have B6 := B4.of_below hb2
    clear B3 B4 hb2 q1
    go_wp2_with (go_at_call 112; refine (i_isSmallPrime _ _ ).mono ?_; rintro e w' ⟨rfl, nq, rfl⟩; rw [h3])
    go_ret2
    refine ⟨ret_ii HV.out.symm HC.out.symm, ?_⟩
    repeat (first | exact q2 | refine below_drewN ?_ _)
  have hok : clOk a b c d = false := by unfold clOk; rw [Bool.eq_false_iff]; intro h; simp at h; exact h4 h
  have hne := cross_ne h1 h2 h4
  have hor : (a == c) = false ∨ (b == d) = false := by
    by_cases hx : a = c
    · right; rw [beq_eq_false_iff_ne]; exact fun hy => h4 ⟨hx, hy⟩
    · left; rw [beq_eq_false_iff_ne]; exact hx
  clear h4
  cases h5 : sm4 a b c d
  · have HC : Hid (clC a b c d p = 2) := by unfold Hid clC twoC; rw [h1, h2, h3, hok, h5]; rfl
    have HV : Hid (clV a b c d p = 0) := by unfold Hid clV; rw [HC.out]; rfl
    have HTC : Hid (twoC a b c d = 2) := by unfold Hid twoC; rw [h5]; rfl
    clear hok hne
    rcases hor with heq | heq
    all_goals
      go_enter Try.func56, Try.ntmps56
      go_wp2_with (fail)
      obtain ⟨B1, B2⟩ := two_boxes w 61 61 #[.int .i64 a, .int .i64 b] #[.int .i64 c, .int .i64 d]
      refine (i_IsRational _ _ _).mono ?_
      rw [h1]
      rintro e w1 ⟨rfl, hb1⟩
      have q1 := bel_call (two_alloc w _ _) hb1
      obtain ⟨c1, c2, c3, c4⟩ := (B1.of_below hb1).two
      obtain ⟨d1, d2, d3, d4⟩ := (B2.of_below hb1).two
      have B3 := B1.of_below hb1
      have B4 := B2.of_below hb1
      clear B1 B2 hb1
      go_wp2_with (fail)
      refine (i_IsRational _ _ _).mono ?_
      rw [h2]
      rintro e w2 ⟨rfl, hb2⟩
      have q2 := bel_call q1 hb2
      clear c1 c2 c3 c4 d1 d2 d3 d4
      obtain ⟨c1, c2, c3, c4⟩ := (B3.of_below hb2).two
      obtain ⟨d1, d2, d3, d4⟩ := (B4.of_below hb2).two
      have B5 := B3.of_below hb2
      have B6 := B4.of_below hb2
      clear B3 B4 hb2 q1
      go_wp2_with (go_at_call 112; refine (i_isSmallPrime _ _ ).mono ?_; rintro e w' ⟨rfl, nq, rfl⟩; rw [h3])
      refine (i_areSmall _ _ _ _ _ h1 h2).mono ?_
      rw [HTC.out]
      rintro e w4 ⟨rfl, hb4⟩
      have q4 := bel_call (below_drewN q2 nq) hb4
      go_wp2_with (fail)
      go_ret2
      refine ⟨ret_ii HV.out.symm HC.out.symm, ?_⟩
      repeat (first | exact q4 | refine below_drewN ?_ _)
  · have HC : Hid (clC a b c d p = 0) := by unfold Hid clC twoC; rw [h1, h2, h3, hok, h5]; rfl
    have HTC : Hid (twoC a b c d = 0) := by unfold Hid twoC; rw [h5]; rfl
    obtain ⟨⟨m1, m2⟩, ⟨m3, m4⟩, m5, m6⟩ := cross_bd h1 h2 h5
    obtain ⟨_, _, n3, n4, _⟩ := ratB_bd h1
    obtain ⟨_, _, n5, n6, _⟩ := ratB_bd h2
    obtain ⟨p1, p2⟩ := smallB_t h3
    have HV : Hid (clV a b c d p = (val p.toNat (a * d - c * b).natAbs : Int) - (val p.toNat b.natAbs : Int) - (val p.toNat d.natAbs : Int)) := by unfold Hid clV; rw [HC.out]; rfl
    have HS := Lib.hid (val_split h3 n3 n5)
    have v1 := val_le40 (p := p.toNat) (n := b.natAbs) (by omega) (by omega) (by omega)
    have v2 := val_le40 (p := p.toNat) (n := d.natAbs) (by omega) (by omega) (by omega)
    have v3 := val_le40 (p := p.toNat) (n := (b * d).natAbs) (by omega) (by omega) (by omega)
    have v4 : val p.toNat (a * d - c * b).natAbs ≤ 2000000000000 := by have := (val_bd (p := p.toNat) (n := (a * d - c * b).natAbs) (by omega) (by omega)).2.1; omega
    have HNE := Lib.hid hne
    have z1 : Hid (b ≠ 0) := by unfold Hid; omega
    have z2 : Hid (d ≠ 0) := by unfold Hid; omega
    have z3 : Hid (b * d ≠ 0) := by unfold Hid; omega
    clear hok hne
    rcases hor with heq | heq
    all_goals
      go_enter Try.func56, Try.ntmps56
      go_wp2_with (fail)
      obtain ⟨B1, B2⟩ := two_boxes w 61 61 #[.int .i64 a, .int .i64 b] #[.int .i64 c, .int .i64 d]
      refine (i_IsRational _ _ _).mono ?_
      rw [h1]
      rintro e w1 ⟨rfl, hb1⟩
      have q1 := bel_call (two_alloc w _ _) hb1
      obtain ⟨c1, c2, c3, c4⟩ := (B1.of_below hb1).two
      obtain ⟨d1, d2, d3, d4⟩ := (B2.of_below hb1).two
      have B3 := B1.of_below hb1
      have B4 := B2.of_below hb1
      clear B1 B2 hb1
      go_wp2_with (fail)
      refine (i_IsRational _ _ _).mono ?_
      rw [h2]
      rintro e w2 ⟨rfl, hb2⟩
      have q2 := bel_call q1 hb2
      clear c1 c2 c3 c4 d1 d2 d3 d4
      obtain ⟨c1, c2, c3, c4⟩ := (B3.of_below hb2).two
      obtain ⟨d1, d2, d3, d4⟩ := (B4.of_below hb2).two
      have B5 := B3.of_below hb2
      have B6 := B4.of_below hb2
      clear B3 B4 hb2 q1
      go_wp2_with (go_at_call 112; refine (i_isSmallPrime _ _ ).mono ?_; rintro e w' ⟨rfl, nq, rfl⟩; rw [h3])
      refine (i_areSmall _ _ _ _ _ h1 h2).mono ?_
      rw [HTC.out]
      rintro e w4 ⟨rfl, hb4⟩
      have q4 := bel_call (below_drewN q2 nq) hb4
      obtain ⟨e1, e2, e3, e4⟩ := ((B5.drewN nq).of_below hb4).two
      obtain ⟨f1, f2, f3, f4⟩ := ((B6.drewN nq).of_below hb4).two
      clear c1 c2 c3 c4 d1 d2 d3 d4 hb4 q2 B5 B6
      go_wp2_with (fail)
      have k1 : IntKind.i64.wrap (a * d) = a * d := IntWalk.i64_in _ (by omega)
      have k2 : IntKind.i64.wrap (c * b) = c * b := IntWalk.i64_in _ (by omega)
      have k3 : IntKind.i64.wrap (b * d) = b * d := IntWalk.i64_in _ (by omega)
      have k4 : IntKind.i64.wrap (a * d - c * b) = a * d - c * b := IntWalk.i64_in _ (by omega)
      go_wp2_with (go_quiet ((go_at_call 114; exact Calls.quiet_of (i_valuation _ _ _ (by omega) (by omega) (by first | exact HNE.out | exact z1.out | exact z2.out | exact z3.out) p1 p2))))
      go_ret2
      refine ⟨ret_ii (by first | (rw [HV.out]; done) | (rw [HV.out, HS.out]; omega)) HC.out.symm, ?_⟩
      repeat (first | exact q4 | refine below_drewN ?_ _)
end Go.Proofs.Ythjoegoeaiemdaa

/- Contracts: moduli, inverses, residues of a ring. -/
import Derived.Test.YtlhkpepnklbnfaaA42
namespace Go.Proofs.Ytlhkpepnklbnfaa
set_option linter.unusedVariables false
set_option linter.unusedSimpArgs false
open Go.RowKit

/-- The inverse of a by m. -/
def invM (a m : Nat) : Int := bzx a m 1 0 % (m : Int)
theorem BoxB (w : World) (o : Obj) : Below w.heap.size w (w.alloc o) := (Below.refl _ _).alloc (Nat.le_refl _) _
set_option maxHeartbeats 400000 in
theorem s_l02Inverse (a m : Nat) (w : World) (ha : a ≤ 1000000000000) (hm : m ≤ 1000000000000) (h0 : 0 < m) : Calls Try.prog 85 #[.int .i64 a, .int .i64 m] w (Q (.int .i64 (invM a m)) w) := by
  go_enter Try.func85, Try.ntmps85
  go_wp2_with (first | (go_at_call 121; refine (s_l01Bezout a m _ ha hm).mono ?_; rintro e w' ⟨rfl, nq, rfl⟩) | (go_at_call 86; refine (s_l01Mod _ _ _ (by omega) (by omega)).mono ?_; rintro e w' ⟨rfl, nq2, rfl⟩))
  go_ret
  exact ⟨rfl, by first | exact dq1 | exact dq2⟩
set_option maxHeartbeats 400000 in
theorem i_modulus (p n : Nat) (w : World) (hb : p ^ n ≤ 1000000000000) (hp : 1 ≤ p) (hn : n ≤ 1000) : Calls Try.prog 91 #[.agg #[.int .i64 p, .int .i64 n]] w (M (.int .i64 ((p ^ n : Nat) : Int)) w) := by
  have HB := Lib.hid hb
  generalize hv : ((p ^ n : Nat) : Int) = v
  have HV := Lib.hid hv
  clear hb hv
  go_enter Try.func91, Try.ntmps91
  go_wp2_with (first | (go_at_call 73; refine (i_power p n _ HB.out hp hn).mono ?_; rw [HV.out]; rintro e w' ⟨rfl, nq, rfl⟩))
  go_ret
  exact ⟨rfl, below_drewN (BoxB _ _) _⟩
set_option maxHeartbeats 400000 in
theorem i_has (p n m : Nat) (a : Int) (w : World) (hv : Hid (p ^ n = m)) (hb : m ≤ 1000000000000) (hm : 1 ≤ m) (hp : 1 ≤ p) (hn : n ≤ 1000) : Calls Try.prog 123 #[.agg #[.int .i64 p, .int .i64 n], .int .i64 a] w (M (.bool (inB a 0 ((m : Int) - 1))) w) := by
  go_enter Try.func123, Try.ntmps123
  go_wp2_with (first | (go_at_call 91; refine (i_modulus p n _ (by rw [hv.out]; exact hb) hp hn).mono ?_; rw [hv.out]; rintro e w' ⟨rfl, hb1⟩) | (go_at_call 106; refine (i_within _ _ _ _).mono ?_; rintro e w2 ⟨rfl, nq2, rfl⟩))
  go_ret
  exact ⟨rfl, below_drewN (bel_call (BoxB _ _) hb1) _⟩
set_option maxHeartbeats 1000000 in
theorem i_inverse (p n m a : Nat) (w : World) (hv : Hid (p ^ n = m)) (ha : a ≤ 1000000000000) (hb : m ≤ 1000000000000) (hm : 1 ≤ m) (hp : 1 ≤ p) (hn : n ≤ 1000) : Calls Try.prog 89 #[.agg #[.int .i64 p, .int .i64 n], .int .i64 a] w (M (.int .i64 (invM a m)) w) := by
  go_enter Try.func89, Try.ntmps89
  go_wp2_with (fail)
  have hB := BK.new w 51 #[.int .i64 (p : Int), .int .i64 (n : Int)]
  refine (i_modulus p n _ (by rw [hv.out]; exact hb) hp hn).mono ?_
  rw [hv.out]
  rintro e w1 ⟨rfl, hb1⟩
  have b1 := bel_call (BoxB w _) hb1
  obtain ⟨c0, c1, _, _⟩ := (hB.of_below hb1).two
  have hB1 := hB.of_below hb1
  clear hb1 hB
  go_wp2_with (go_at_call 124; refine (i_Bezout a m _ ha hb).mono ?_; rintro e w' ⟨rfl, nq, rfl⟩)
  refine (i_modulus p n _ (by rw [hv.out]; exact hb) hp hn).mono ?_
  rw [hv.out]
  rintro e w2 ⟨rfl, hb2⟩
  have b2 := bel_call (below_drewN b1 nq) hb2
  go_wp2_with (go_at_call 90; refine (i_mod _ _ _ (by omega) (by omega)).mono ?_; rintro e w' ⟨rfl, nq, rfl⟩)
  go_ret
  exact ⟨rfl, below_drewN b2 _⟩
noncomputable def rgC (p n a : Int) : Int := if ringB p n then (if inB a 0 (((p.toNat ^ n.toNat : Nat) : Int) - 1) then 0 else 2) else 1
theorem md_ring {p n m : Nat} (h : p ^ n = m) (hb : m ≤ 1000000000) : md p n = m := by unfold md; rw [h, if_pos hb]
set_option maxHeartbeats 1000000 in
theorem s_l02Code (p n a : Int) (w : World) (hp0 : -9223372036854775808 ≤ p) : Calls Try.prog 83 #[.agg #[.int .i64 p, .int .i64 n], .int .i64 a] w (M (.int .i64 (rgC p n a)) w) := by
  cases h1 : ringB p n
  · have HC : Hid (rgC p n a = 1) := by unfold Hid rgC; rw [h1]; rfl
    go_enter Try.func83, Try.ntmps83
    go_wp2_with (go_at_call 120; refine (s_IsRing _ _ _ hp0).mono ?_; rw [h1]; rintro e w' ⟨rfl, hb1⟩)
    go_ret
    exact ⟨ret_int HC.out.symm, bel_call (BoxB _ _) hb1⟩
  · obtain ⟨p1, p2, n1, n2, hb, _⟩ := ringB_bd h1
    obtain ⟨p, rfl⟩ := Int.eq_ofNat_of_zero_le (show 0 ≤ p by omega)
    obtain ⟨n, rfl⟩ := Int.eq_ofNat_of_zero_le (show 0 ≤ n by omega)
    have HC : Hid (rgC p n a = if inB a 0 (((p ^ n : Nat) : Int) - 1) then 0 else 2) := by unfold Hid rgC; rw [h1, Int.toNat_natCast, Int.toNat_natCast]; rfl
    simp only [Int.toNat_natCast] at hb
    have hpos : 0 < p ^ n := Nat.pow_pos (by omega)
    generalize hm : p ^ n = m at *
    have HM := Lib.hid (md_ring hm hb)
    clear hm
    cases h2 : inB a 0 ((m : Int) - 1)
    all_goals
      have HY := HC.out
      rw [h2] at HY
      have HZ := Lib.hid HY
      clear HY HC
      go_enter Try.func83, Try.ntmps83
      go_wp2_with (fail)
      have hB := BK.new w 51 #[.int .i64 (p : Int), .int .i64 (n : Int)]
      refine (s_IsRing _ _ _ hp0).mono ?_
      rw [h1]
      rintro e w1 ⟨rfl, hb1⟩
      have b1 := bel_call (BoxB w _) hb1
      obtain ⟨c0, c1, _, _⟩ := (hB.of_below hb1).two
      clear hb1 hB
      go_wp2_with (first | (go_at_call 84; refine (s_l02Modulus p n _ (by omega) (by omega) (by omega)).mono ?_; rw [HM.out]; rintro e w' ⟨rfl, nq, rfl⟩) | (go_at_call 64; refine (s_l01In _ _ _ _).mono ?_; rw [h2]; rintro e w' ⟨rfl, nq2, rfl⟩))
      go_ret
      refine ⟨ret_int HZ.out.symm, ?_⟩
      repeat (first | exact b1 | refine below_drewN ?_ _)
end Go.Proofs.Ytlhkpepnklbnfaa

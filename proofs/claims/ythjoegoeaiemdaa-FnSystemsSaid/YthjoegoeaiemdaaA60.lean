/- Contracts: spec.l31Times, spec.l31Solve. -/
import Derived.Test.YthjoegoeaiemdaaA55
namespace Go.Proofs.Ythjoegoeaiemdaa
set_option linter.unusedVariables false
set_option linter.unusedSimpArgs false
open Go.RowKit

theorem times_odd {o x y m : Nat} (h : y % 2 = 1) : ((o + x) % m + ((x + x) % m) * (y / 2)) % m = (o + x * y) % m := by
  rw [Nat.add_mod, Nat.mod_mod, Nat.mul_mod, Nat.mod_mod, ← Nat.mul_mod, ← Nat.add_mod]
  congr 1
  generalize hz : y / 2 = z
  have e : y = 2 * z + 1 := by omega
  rw [e, Nat.mul_add, Nat.mul_one, ← Nat.mul_assoc, Nat.mul_comm x 2, Nat.two_mul]
  omega
theorem times_even {o x y m : Nat} (h : y % 2 ≠ 1) : (o + ((x + x) % m) * (y / 2)) % m = (o + x * y) % m := by
  rw [Nat.add_mod, Nat.mul_mod, Nat.mod_mod, ← Nat.mul_mod, ← Nat.add_mod]
  congr 1
  generalize hz : y / 2 = z
  have e : y = 2 * z := by omega
  rw [e, ← Nat.mul_assoc, Nat.mul_comm x 2, Nat.two_mul]
set_option maxHeartbeats 1000000 in
theorem s_l31Times (a b m : Nat) (w : World) (ha : a < m) (hm : m ≤ 1000000000000) (hb : b ≤ 1000000000000) : Calls Try.prog 143 #[.int .i64 a, .int .i64 b, .int .i64 m] w (Q (.int .i64 ((a * b % m : Nat) : Int)) w) := by
  generalize hR : a * b % m = R
  have HR := Lib.hid hR
  clear hR
  go_enter Try.func143, Try.ntmps143
  go_wp2_with (fail)
  go_loop [0, 1, 7] (fun u0 u1 u4 => ∃ x y o : Nat, x < m ∧ y ≤ 1000000000000 ∧ o < m ∧ u0 = .int .i64 x ∧ u1 = .int .i64 y ∧ u4 = .int .i64 o ∧ Hid ((o + x * y) % m = R)) (fun _ u1 _ => (intOf u1).toNat)
  case atStart => exact ⟨a, b, 0, ha, hb, by omega, rfl, rfl, rfl, by unfold Hid; rw [Nat.zero_add]; exact HR.out⟩
  case round =>
    obtain ⟨x, y, o, hx, hy, ho, rfl, rfl, rfl, HI⟩ := hrel
    by_cases h0 : 0 < y
    · have hlt : y / 2 < y := by omega
      have e1 : ((x : Int) + x) % (m : Int) = ((((x + x) % m : Nat)) : Int) := by simp
      have b1 := Nat.mod_lt (x + x) (show 0 < m by omega)
      have hmz : (m : Int) ≠ 0 := by omega
      have E1 := Lib.hid e1
      have B1 := Lib.hid b1
      clear e1 b1
      by_cases hp : y % 2 = 1
      · have t1 : ((y : Int) % 2 == 1) = true := by rw [beq_iff_eq]; omega
        have e2 : ((o : Int) + x) % (m : Int) = ((((o + x) % m : Nat)) : Int) := by simp
        have b2 := Nat.mod_lt (o + x) (show 0 < m by omega)
        have HT := Lib.hid (times_odd (o := o) (x := x) (m := m) hp)
        have E2 := Lib.hid e2
        have B2 := Lib.hid b2
        clear e2 b2 hp
        go_wp2_with (fail)
        go_round
        case rel => exact ⟨(x + x) % m, y / 2, (o + x) % m, B1.out, by omega, B2.out, by rw [E1.out], by simp, by rw [E2.out], by unfold Hid; rw [HT.out]; exact HI.out⟩
        case measure => simp [intOf]; omega
      · have t1 : ((y : Int) % 2 == 1) = false := by rw [beq_eq_false_iff_ne]; omega
        have HT := Lib.hid (times_even (o := o) (x := x) (m := m) hp)
        clear hp
        go_wp2_with (fail)
        go_round
        case rel => exact ⟨(x + x) % m, y / 2, o, B1.out, by omega, ho, by rw [E1.out], by simp, rfl, by unfold Hid; rw [HT.out]; exact HI.out⟩
        case measure => simp [intOf]; omega
    · obtain rfl : y = 0 := by omega
      have HO : Hid (o = R) := by
        unfold Hid
        have := HI.out
        rw [Nat.mul_zero, Nat.add_zero, Nat.mod_eq_of_lt ho] at this
        exact this
      go_wp2_with (fail)
      go_ret
      exact ⟨ret_int (by rw [HO.out]), 0, rfl⟩
theorem s_l01ModV (n m : Int) (w : World) (hm : 0 < m) (hm' : m ≤ 4611686018427387904) {r : Int} (h : n % m = r) : Calls Try.prog 83 #[.int .i64 n, .int .i64 m] w (Q (.int .i64 r) w) := by
  subst h; exact s_l01Mod n m w hm hm'
theorem s_invV (a m : Nat) (w : World) (ha : a ≤ 1000000000000) (hm : m ≤ 1000000000000) (h0 : 0 < m) {I : Int} (h : invM a m = I) : Calls Try.prog 142 #[.int .i64 a, .int .i64 m] w (Q (.int .i64 I) w) := by
  subst h; exact s_l02Inverse a m w ha hm h0
theorem s_timesV (a b m : Int) (w : World) (ha : 0 ≤ a) (ha' : a < m) (hm : m ≤ 1000000000000) (hb : 0 ≤ b) (hb' : b ≤ 1000000000000) {r : Int} (h : a * b % m = r) : Calls Try.prog 143 #[.int .i64 a, .int .i64 b, .int .i64 m] w (Q (.int .i64 r) w) := by
  subst h
  obtain ⟨a, rfl⟩ := Int.eq_ofNat_of_zero_le ha
  obtain ⟨b, rfl⟩ := Int.eq_ofNat_of_zero_le hb
  obtain ⟨m, rfl⟩ := Int.eq_ofNat_of_zero_le (show 0 ≤ m by omega)
  have hc := s_l31Times a b m w (by omega) (by omega) (by omega)
  rw [Int.natCast_emod, Int.natCast_mul] at hc
  exact hc
set_option maxHeartbeats 4000000 in
theorem s_l31Solve (A : Option Addr) (n c : Nat) (l : List Z3) (w : World) (hn : n = l.length) (hsys : SysTo l l.length) (hl : n ≤ 1048576) (hs : IT w w.heap.size A l) :
    Calls Try.prog 77 #[.slice A n c] w (Q (.tuple #[.int .i64 (slv l l.length), .int .i64 (pr l l.length : Nat)]) w) := by
  have HN := Lib.hid hn
  have HSYS := Lib.hid hsys
  clear hn hsys
  generalize hV : slv l l.length = V
  generalize hPP : pr l l.length = PP
  have HV := Lib.hid hV
  have HPP := Lib.hid hPP
  clear hV hPP
  go_enter Try.func77, Try.ntmps77
  go_wp2_with (fail)
  go_loopw [4, 5, 6] (fun u4 u5 u12 wr => ∃ (k P : Nat) (N : Int), k ≤ n ∧ 1 ≤ P ∧ P ≤ 1000000000000 ∧ 0 ≤ N ∧ N ≤ 1000000000000 ∧ u12 = .int .i64 k ∧ u4 = .int .i64 N ∧ u5 = .int .i64 P ∧ Hid (N = slv l k ∧ P = pr l k) ∧ DR w wr) (fun _ _ u12 _ => n - (intOf u12).toNat)
  case atStart => exact ⟨0, 1, 0, Nat.zero_le _, by omega, by omega, by omega, by omega, rfl, rfl, rfl, ⟨rfl, rfl⟩, DR.refl _⟩
  case round =>
    obtain ⟨k, P, N, hk, hP1, hP2, hN1, hN2, rfl, rfl, rfl, HS, hdr⟩ := hrel
    by_cases hlt : k < n
    · have hkl : k < l.length := by rw [← HN.out]; exact hlt
      obtain ⟨k1, k2, _, hpr⟩ := HSYS.out k hkl
      have hss := sk_sum_bd (HSYS.out.less (show k + 1 ≤ l.length by omega))
      have hnb := slv_bd (k + 1) (HSYS.out.less (show k + 1 ≤ l.length by omega))
      obtain ⟨v1, v2⟩ := inB_true k2
      obtain ⟨m1, m2⟩ := mo_bd k1
      obtain ⟨b, off, rfl, hbb, hcell⟩ := IT.at hs (k := k) hkl
      obtain ⟨h0, h1, h2⟩ := hcell k hkl
      have e0 := (hdr.cell _).trans h0
      have e1 := (hdr.cell _).trans h1
      have e2 := (hdr.cell _).trans h2
      have hx := emod_bd ((g3 l k).2.2 - N) (m := (mo l k : Int)) (by omega)
      have hi := invM_bd (P % mo l k) m1
      have hSK : sk l N k = ((g3 l k).2.2 - N) % (mo l k : Int) * invM (P % mo l k) (mo l k) % (mo l k : Int) := by unfold sk; rw [HS.out.2]
      have hkb := sk_bd (l := l) (n := N) m1
      rw [← HS.out.1, ← HS.out.2, hSK] at hss
      rw [hSK] at hkb
      have hslv : slv l (k + 1) = N + (P : Int) * (((g3 l k).2.2 - N) % (mo l k : Int) * invM (P % mo l k) (mo l k) % (mo l k : Int)) := by
        show slv l k + (pr l k : Int) * sk l (slv l k) k = _
        rw [← HS.out.1, ← HS.out.2, hSK]
      have hle := pr_le (HSYS.out.less (show k + 1 ≤ l.length by omega))
      have hprs : ((pr l (k + 1) : Nat) : Int) = (P : Int) * (mo l k : Int) := by show ((pr l k * mo l k : Nat) : Int) = _; rw [Int.natCast_mul, HS.out.2]
      generalize hX : ((g3 l k).2.2 - N) % (mo l k : Int) = X at *
      generalize hI : invM (P % mo l k) (mo l k) = I at *
      obtain ⟨x1, x2⟩ := hx
      obtain ⟨i1, i2⟩ := hi
      obtain ⟨y1, y2⟩ := mul_bd9 x1 x2 i1 i2 (by omega)
      obtain ⟨s1, s2⟩ := hss
      have hmul : (P : Int) * (mo l k : Int) = ((P * mo l k : Nat) : Int) := by rw [Int.natCast_mul]
      have hpr2 : P * mo l k ≤ 1000000000000 := by rw [HS.out.2]; exact hpr
      have q0 : 0 ≤ (P : Int) * (mo l k : Int) := by rw [hmul]; omega
      have q1 : (P : Int) * (mo l k : Int) ≤ 1000000000000 := by rw [hmul]; omega
      have q2 : 1 ≤ P * mo l k := Nat.mul_pos (by omega) (by omega)
      have q3 : (P : Int) * (mo l k : Int) ≠ 0 := by rw [hmul]; omega
      have q4 : P < P * mo l k := by
        have : P * 2 ≤ P * mo l k := Nat.mul_le_mul_left _ m1
        omega
      have q5 : (P : Int) < (P : Int) * (mo l k : Int) := by rw [hmul]; omega
      have p1 : (P : Int) % ((P : Int) * (mo l k : Int)) = P := Int.emod_eq_of_lt (by omega) q5
      have hN3 : N + (P : Int) * (X * I % (mo l k : Int)) < (P : Int) * (mo l k : Int) := by rw [← hslv, ← hprs]; exact hnb.2
      have p2 : (N + (P : Int) * (X * I % (mo l k : Int))) % ((P : Int) * (mo l k : Int)) = N + (P : Int) * (X * I % (mo l k : Int)) := Int.emod_eq_of_lt (by omega) hN3
      have p3 : (P : Int) * (X * I % (mo l k : Int)) % ((P : Int) * (mo l k : Int)) = (P : Int) * (X * I % (mo l k : Int)) := Int.emod_eq_of_lt (by omega) (by omega)
      have hmz : (mo l k : Int) ≠ 0 := by omega
      have hpm := Nat.mod_lt P (show 0 < mo l k by omega)
      have p4 : (P : Int) % (mo l k : Int) = ((P % mo l k : Nat) : Int) := by rw [Int.natCast_emod]
      obtain ⟨t1, t2⟩ := hkb
      have HX := Lib.hid hX
      have HI := Lib.hid hI
      have HSLV := Lib.hid hslv
      have HML := Lib.hid hmul
      have P3 := Lib.hid p3
      have P4 := Lib.hid p4
      clear hX hI hslv hmul hSK hnb hle hpr hpr2 hcell h0 h1 h2 k2 hkl hprs p3 p4 q4
      go_wp2_with (go_quiet ((go_at_call 84; exact Calls.quiet_of (s_mod3 l k _ k1))))
      refine (s_l01ModV _ _ _ (by omega) (by omega) HX.out).mono ?_
      rintro e w2 ⟨rfl, n2, rfl⟩
      go_wp2_with (fail)
      refine (s_l01ModV _ _ _ (by omega) (by omega) P4.out).mono ?_
      rintro e w3 ⟨rfl, n3, rfl⟩
      go_wp2_with (fail)
      refine (s_invV (P % mo l k) (mo l k) _ (by omega) (by omega) (by omega) HI.out).mono ?_
      rintro e w4 ⟨rfl, n4, rfl⟩
      go_wp2_with (fail)
      refine (s_timesV _ _ _ _ (by omega) q5 q1 t1 (by omega) P3.out).mono ?_
      rintro e w5 ⟨rfl, n5, rfl⟩
      go_wp2_with (fail)
      go_roundw
      case rel => exact ⟨k + 1, P * mo l k, N + (P : Int) * (X * I % (mo l k : Int)), by omega, q2, by have := HML.out; omega, by omega, by omega, by go_num, by rw [p2], by rw [HML.out], ⟨HSLV.out.symm, by show _ = pr l k * mo l k; rw [HS.out.2]⟩, by repeat (first | exact hdr | refine DR.step ?_ _)⟩
      case measure => simp [intOf]; omega
    · obtain rfl : k = n := by omega
      have HE : Hid (N = V ∧ P = PP) := by
        unfold Hid; rw [← HV.out, ← HPP.out, ← HN.out]; exact HS.out
      go_wp2_with (fail)
      go_ret2
      exact ⟨ret_ii HE.out.1 (by rw [HE.out.2]), hdr⟩
end Go.Proofs.Ythjoegoeaiemdaa

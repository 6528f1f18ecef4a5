/- Contracts: impl.solve. -/
import Derived.Test.YthjoegoeaiemdaaA54
namespace Go.Proofs.Ythjoegoeaiemdaa
set_option linter.unusedVariables false
set_option linter.unusedSimpArgs false
open Go.RowKit

theorem i_modV (n m : Int) (w : World) (hm : 0 < m) (hm' : m ≤ 4611686018427387904) {r : Int} (h : n % m = r) : Calls Try.prog 81 #[.int .i64 n, .int .i64 m] w (M (.int .i64 r) w) := by
  subst h; exact (i_mod n m w hm hm').mono fun _ _ h => Q.toM h
theorem i_inv3 (l : List Z3) (k P : Nat) (w : World) (h : ringB (g3 l k).1 (g3 l k).2.1 = true) {I : Int} (hI : invM (P % mo l k) (mo l k) = I) :
    Calls Try.prog 140 #[.agg #[.int .i64 (g3 l k).1, .int .i64 (g3 l k).2.1], .int .i64 ((P : Int) % (mo l k : Int))] w (M (.int .i64 I) w) := by
  subst hI
  obtain ⟨p1, p2, n1, n2, hb, _⟩ := ringB_bd h
  obtain ⟨m1, m2⟩ := mo_bd h
  have hlt := Nat.mod_lt P (show 0 < mo l k by omega)
  have hc := i_inverse (g3 l k).1.toNat (g3 l k).2.1.toNat (mo l k) (P % mo l k) w rfl (by omega) (by omega) (by omega) (by omega) (by omega)
  rw [Int.toNat_of_nonneg (by omega), Int.toNat_of_nonneg (by omega), Int.natCast_emod] at hc
  exact hc
theorem invM_bd (a : Nat) {m : Nat} (h : 2 ≤ m) : 0 ≤ invM a m ∧ invM a m < (m : Int) := by
  unfold invM; exact emod_bd _ (by omega)
theorem mul_bd9 {x y : Int} {m : Int} (hx : 0 ≤ x) (hx' : x < m) (hy : 0 ≤ y) (hy' : y < m) (hm : m ≤ 1000000000) : 0 ≤ x * y ∧ x * y ≤ 1000000000000000000 := by
  refine ⟨Int.mul_nonneg hx hy, ?_⟩
  have h1 : x * y ≤ 1000000000 * y := Int.mul_le_mul_of_nonneg_right (by omega) hy
  omega
set_option maxHeartbeats 4000000 in
theorem i_solve (A : Option Addr) (n c : Nat) (l : List Z3) (w : World) (hn : n = l.length) (hsys : SysTo l l.length) (hl : n ≤ 1048576) (hs : IT w w.heap.size A l) :
    Calls Try.prog 75 #[.slice A n c] w (M2 (slv l l.length) (pr l l.length : Nat) w) := by
  have HN := Lib.hid hn
  have HSYS := Lib.hid hsys
  clear hn hsys
  generalize hV : slv l l.length = V
  generalize hPP : pr l l.length = PP
  have HV := Lib.hid hV
  have HPP := Lib.hid hPP
  clear hV hPP
  go_enter Try.func75, Try.ntmps75
  go_wp2_with (fail)
  go_loopw [4, 5, 12] (fun u4 u5 u12 wr => ∃ (k P : Nat) (N : Int), k ≤ n ∧ 1 ≤ P ∧ P ≤ 1000000000000 ∧ 0 ≤ N ∧ N ≤ 1000000000000 ∧ u12 = .int .i64 k ∧ u4 = .int .i64 N ∧ u5 = .int .i64 P ∧ Hid (N = slv l k ∧ P = pr l k) ∧ Below w.heap.size w wr) (fun _ _ u12 _ => n - (intOf u12).toNat)
  case atStart => exact ⟨0, 1, 0, Nat.zero_le _, by omega, by omega, by omega, by omega, rfl, rfl, rfl, ⟨rfl, rfl⟩, Below.refl _ _⟩
  case round =>
    obtain ⟨k, P, N, hk, hP1, hP2, hN1, hN2, rfl, rfl, rfl, HS, hb⟩ := hrel
    obtain ⟨wo, rfl⟩ : ∃ wo : World, wo = wr := ⟨_, rfl⟩
    by_cases hlt : k < n
    · have hkl : k < l.length := by rw [← HN.out]; exact hlt
      obtain ⟨k1, k2, _, hpr⟩ := HSYS.out k hkl
      have hss := sk_sum_bd (HSYS.out.less (show k + 1 ≤ l.length by omega))
      have hnb := slv_bd (k + 1) (HSYS.out.less (show k + 1 ≤ l.length by omega))
      obtain ⟨v1, v2⟩ := inB_true k2
      obtain ⟨m1, m2⟩ := mo_bd k1
      obtain ⟨b, off, rfl, hbb, hcell⟩ := IT.at hs (k := k) hkl
      obtain ⟨h0, h1, h2⟩ := hcell k hkl
      have e0 := (hb.cell (p := ⟨b, off + k * 3, none⟩) hbb).trans h0
      have e1 := (hb.cell (p := ⟨b, off + k * 3 + 1, none⟩) hbb).trans h1
      have e2 := (hb.cell (p := ⟨b, off + k * 3 + 2, none⟩) hbb).trans h2
      have hsz := hb.size
      have hx := emod_bd ((g3 l k).2.2 - N) (m := (mo l k : Int)) (by omega)
      have hi := invM_bd (P % mo l k) m1
      have hSK : sk l N k = ((g3 l k).2.2 - N) % (mo l k : Int) * invM (P % mo l k) (mo l k) % (mo l k : Int) := by unfold sk; rw [HS.out.2]
      rw [← HS.out.1, ← HS.out.2, hSK] at hss
      have hslv : slv l (k + 1) = N + (P : Int) * (((g3 l k).2.2 - N) % (mo l k : Int) * invM (P % mo l k) (mo l k) % (mo l k : Int)) := by
        show slv l k + (pr l k : Int) * sk l (slv l k) k = _
        rw [← HS.out.1, ← HS.out.2, hSK]
      have hle := pr_le (HSYS.out.less (show k + 1 ≤ l.length by omega))
      generalize hX : ((g3 l k).2.2 - N) % (mo l k : Int) = X at *
      generalize hI : invM (P % mo l k) (mo l k) = I at *
      obtain ⟨x1, x2⟩ := hx
      obtain ⟨i1, i2⟩ := hi
      obtain ⟨y1, y2⟩ := mul_bd9 x1 x2 i1 i2 (by omega)
      have hsb := emod_bd (X * I) (m := (mo l k : Int)) (by omega)
      obtain ⟨s1, s2⟩ := hss
      have ht : (X * I).tmod (mo l k : Int) = X * I % (mo l k : Int) := Int.tmod_eq_emod_of_nonneg y1
      have hmul : (P : Int) * (mo l k : Int) = ((P * mo l k : Nat) : Int) := by rw [Int.natCast_mul]
      have hpr2 : P * mo l k ≤ 1000000000000 := by rw [HS.out.2]; exact hpr
      have q0 : 0 ≤ (P : Int) * (mo l k : Int) := by rw [hmul]; omega
      have q1 : (P : Int) * (mo l k : Int) ≤ 1000000000000 := by rw [hmul]; omega
      have q2 : 1 ≤ P * mo l k := Nat.mul_pos (by omega) (by omega)
      have w1 : IntKind.i64.wrap ((g3 l k).2.2 - N) = (g3 l k).2.2 - N := IntWalk.i64_in _ (by omega)
      have w2 : IntKind.i64.wrap (X * I) = X * I := IntWalk.i64_in _ (by omega)
      have hmz : (mo l k : Int) ≠ 0 := by omega
      have hN3 : slv l (k + 1) ≤ 1000000000000 := by have := hnb.2; omega
      have hN4 : 0 ≤ slv l (k + 1) := hnb.1
      rw [hslv] at hN3 hN4
      have HX := Lib.hid hX
      have HI := Lib.hid hI
      have HSLV := Lib.hid hslv
      have HML := Lib.hid hmul
      clear hX hI hslv hmul hSK hnb hle hpr hpr2 hcell h0 h1 h2 k2 hkl
      go_wp2_with (fail)
      have hB := BK.new wo 95 #[.int .i64 (g3 l k).1, .int .i64 (g3 l k).2.1, .int .i64 (g3 l k).2.2]
      have hb1 := bel_call hb (BoxB wo (.cells #[.int .i64 (g3 l k).1, .int .i64 (g3 l k).2.1, .int .i64 (g3 l k).2.2] 95))
      clear e0 e1 e2
      generalize wo.alloc (.cells #[.int .i64 (g3 l k).1, .int .i64 (g3 l k).2.1, .int .i64 (g3 l k).2.2] 95) = w3 at *
      refine (i_mod3 l k _ k1).mono ?_
      rintro e w4 ⟨rfl, hb4⟩
      have hb4' := bel_call hb1 hb4
      obtain ⟨c0, c1, c2, _, _, _⟩ := (hB.of_below hb4).three
      have r0 := fun d os => cell_regrown c0 d os
      have r1 := fun d os => cell_regrown c1 d os
      have r2 := fun d os => cell_regrown c2 d os
      clear hB hb4 hb1 c0 c1 c2
      go_wp2_with (fail)
      refine wp_region_quiet_below (by kernel_rfl) (by kernel_rfl) ?_
      repeat (first | go_big_quiet_step ((first | (go_at_call 81; go_loud (exact Calls.regrown_of (i_modV _ _ _ (by omega) (by omega) HX.out))) | (go_at_call 140; go_loud (exact Calls.regrown_of (i_inv3 l k P _ k1 HI.out))))) | quiet_step ((first | (go_at_call 81; go_loud (exact Calls.regrown_of (i_modV _ _ _ (by omega) (by omega) HX.out))) | (go_at_call 140; go_loud (exact Calls.regrown_of (i_inv3 l k P _ k1 HI.out))))))
      refine wpQuiet_nil ?_
      intro _ hw'
      obtain ⟨⟨dq, osq⟩, hw''⟩ := hw'
      subst hw''
      have hb5 := below_regrown w4 dq osq
      generalize Go.Sort.grow (redrawn w4 dq) osq = w5 at *
      have hb5' := bel_call hb4' hb5
      clear r0 r1 r2
      go_wp2_with (fail)
      go_roundw
      case rel => exact ⟨k + 1, P * mo l k, N + (P : Int) * (X * I % (mo l k : Int)), by omega, q2, by have := HML.out; omega, hN4, hN3, by go_num, by first | rfl | rw [ht], by rw [HML.out], ⟨HSLV.out.symm, by show _ = pr l k * mo l k; rw [HS.out.2]⟩, hb5'⟩
      case measure => simp [intOf]; omega
    · obtain rfl : k = n := by omega
      have HE : Hid (N = V ∧ P = PP) := by
        unfold Hid; rw [← HV.out, ← HPP.out, ← HN.out]; exact HS.out
      go_wp2_with (fail)
      go_ret2
      exact ⟨ret_ii HE.out.1 (by rw [HE.out.2]), hb⟩
end Go.Proofs.Ythjoegoeaiemdaa

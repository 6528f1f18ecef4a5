/- Contracts: impl.isSystem. -/
import Derived.Test.YthjoegoeaiemdaaA53
namespace Go.Proofs.Ythjoegoeaiemdaa
set_option linter.unusedVariables false
set_option linter.unusedSimpArgs false
open Go.RowKit

theorem i_mod3 (l : List Z3) (k : Nat) (w : World) (h : ringB (g3 l k).1 (g3 l k).2.1 = true) : Calls Try.prog 139 #[.agg #[.int .i64 (g3 l k).1, .int .i64 (g3 l k).2.1]] w (M (.int .i64 (mo l k : Nat)) w) := by
  obtain ⟨p1, p2, n1, n2, hb, _⟩ := ringB_bd h
  have hc := i_modulus (g3 l k).1.toNat (g3 l k).2.1.toNat w (by omega) (by omega) (by omega)
  rw [Int.toNat_of_nonneg (by omega), Int.toNat_of_nonneg (by omega)] at hc
  exact hc
theorem i_has3 (l : List Z3) (k : Nat) (v : Int) (w : World) (h : ringB (g3 l k).1 (g3 l k).2.1 = true) {b : Bool} (hb : inB v 0 ((mo l k : Int) - 1) = b) : Calls Try.prog 138 #[.agg #[.int .i64 (g3 l k).1, .int .i64 (g3 l k).2.1], .int .i64 v] w (M (.bool b) w) := by
  subst hb
  obtain ⟨p1, p2, n1, n2, hb, _⟩ := ringB_bd h
  have hm := mo_bd h
  have hc := i_has (g3 l k).1.toNat (g3 l k).2.1.toNat (mo l k) v w rfl (by omega) (by omega) (by omega) (by omega)
  rw [Int.toNat_of_nonneg (by omega), Int.toNat_of_nonneg (by omega)] at hc
  exact hc
set_option maxHeartbeats 4000000 in
theorem i_isSystem (A : Option Addr) (n c : Nat) (l : List Z3) (w : World) (hn : n = l.length) (hl : n ≤ 1048576) (hcn : n ≤ c) (hcm : c ≤ 9223372036854775807) (hr : R3 l) (hs : IT w w.heap.size A l) :
    Calls Try.prog 74 #[.slice A n c] w (M (.bool (sysB l)) w) := by
  have HN := Lib.hid hn
  have HR := Lib.hid hr
  clear hn hr
  go_enter Try.func74, Try.ntmps74
  go_wp2_with (fail)
  go_loopw [3, 10] (fun u3 u4 wr => ∃ k P : Nat, k ≤ n ∧ 1 ≤ P ∧ P ≤ 1000000000000 ∧ u4 = .int .i64 k ∧ u3 = .int .i64 P ∧ Hid (SysTo l k ∧ P = pr l k) ∧ Below w.heap.size w wr) (fun _ u4 _ => n - (intOf u4).toNat)
  case atStart => exact ⟨0, 1, Nat.zero_le _, by omega, by omega, rfl, rfl, ⟨fun i hi => by omega, rfl⟩, Below.refl _ _⟩
  case round =>
    obtain ⟨k, P, hk, hP1, hP2, rfl, rfl, HS, hb⟩ := hrel
    obtain ⟨wo, rfl⟩ : ∃ wo : World, wo = wr := ⟨_, rfl⟩
    by_cases hlt : k < n
    · have hkl : k < l.length := by rw [← HN.out]; exact hlt
      obtain ⟨b, off, rfl, hbb, hcell⟩ := IT.at hs (k := k) hkl
      obtain ⟨h0, h1, h2⟩ := hcell k hkl
      have HCELL := Lib.hid hcell
      have e0 := (hb.cell (p := ⟨b, off + k * 3, none⟩) hbb).trans h0
      have e1 := (hb.cell (p := ⟨b, off + k * 3 + 1, none⟩) hbb).trans h1
      have e2 := (hb.cell (p := ⟨b, off + k * 3 + 2, none⟩) hbb).trans h2
      have hsz := hb.size
      have hp0 := (HR.out k hkl).1.1
      have HKL := Lib.hid hkl
      clear hcell h0 h1 h2 hkl
      go_wp2_with (fail)
      have hB := BK.new wo 95 #[.int .i64 (g3 l k).1, .int .i64 (g3 l k).2.1, .int .i64 (g3 l k).2.2]
      have hb1 := bel_call hb (BoxB wo (.cells #[.int .i64 (g3 l k).1, .int .i64 (g3 l k).2.1, .int .i64 (g3 l k).2.2] 95))
      clear e0 e1 e2
      generalize wo.alloc (.cells #[.int .i64 (g3 l k).1, .int .i64 (g3 l k).2.1, .int .i64 (g3 l k).2.2] 95) = w1 at *
      cases k1 : ringB (g3 l k).1 (g3 l k).2.1
      · have HX : Hid (sysB l = false) := sys_no1 HKL.out k1
        refine (i_IsRingB _ _ _ hp0 k1).mono ?_
        rintro e w5 ⟨rfl, hb5⟩
        have hfin := bel_call hb1 hb5
        go_wp2_with (fail)
        go_ret
        exact ⟨ret_bool HX.out.symm, hfin⟩
      obtain ⟨m1, m2⟩ := mo_bd k1
      refine (i_IsRingB _ _ _ hp0 k1).mono ?_
      rintro e w4 ⟨rfl, hb4⟩
      have hB4 := hB.of_below hb4
      have hb4' := bel_call hb1 hb4
      obtain ⟨c0, c1, c2, _, _, _⟩ := hB4.three
      clear hB hb4 hb1
      go_wp2_with (fail)
      cases k2 : inB (g3 l k).2.2 0 ((mo l k : Int) - 1)
      · have HX : Hid (sysB l = false) := sys_no2 HKL.out k2
        refine (i_has3 l k _ _ k1 k2).mono ?_
        rintro e w5 ⟨rfl, hb5⟩
        have hfin := bel_call hb4' hb5
        go_wp2_with (fail)
        go_ret
        exact ⟨ret_bool HX.out.symm, hfin⟩
      refine (i_has3 l k _ _ k1 k2).mono ?_
      rintro e w5 ⟨rfl, hb5⟩
      have hB5 := hB4.of_below hb5
      have hfin := bel_call hb4' hb5
      clear c0 c1 c2 hB4 hb5 hb4' hb hsz
      go_wp2_with (fail)
      go_loopw [31] (fun u6 wr => ∃ j : Nat, j ≤ k ∧ u6 = .int .i64 j ∧ Hid (∀ i, i < j → (g3 l i).1 ≠ (g3 l k).1) ∧ Below w5.heap.size w5 wr) (fun u6 _ => k - (intOf u6).toNat)
      case atStart => exact ⟨0, Nat.zero_le _, rfl, fun i hi => by omega, Below.refl _ _⟩
      case round =>
        obtain ⟨j, hj, rfl, HJ, hbw⟩ := hrel
        have hfr := bel_call hfin hbw
        have hB6 := hB5.below hbw hB5.lt
        have hz6 := hB6.lt
        obtain ⟨c0, c1, c2, _, _, _⟩ := hB6.three
        obtain ⟨wp, rfl⟩ : ∃ wp : World, wp = wr := ⟨_, rfl⟩
        by_cases hjk : j < k
        · have hf := HCELL.out j (by have := HKL.out; omega)
          have f0 := (hfr.cell (p := ⟨b, off + j * 3, none⟩) hbb).trans hf.1
          have f1 := (hfr.cell (p := ⟨b, off + j * 3 + 1, none⟩) hbb).trans hf.2.1
          have f2 := (hfr.cell (p := ⟨b, off + j * 3 + 2, none⟩) hbb).trans hf.2.2
          have hsz6 := hfr.size
          clear hf
          by_cases heq : (g3 l j).1 = (g3 l k).1
          · have HX : Hid (sysB l = false) := sys_no3 HKL.out hjk heq
            have h6 : ((g3 l j).1 == (g3 l k).1) = true := by rw [beq_iff_eq]; exact heq
            clear heq
            go_wp2_with (fail)
            go_ret
            exact ⟨ret_bool HX.out.symm, hfr.alloc hsz6 _⟩
          · have h6 : ((g3 l j).1 == (g3 l k).1) = false := by rw [beq_eq_false_iff_ne]; exact heq
            have HEQ := Lib.hid heq
            clear heq
            go_wp2_with (fail)
            go_roundw
            case rel =>
              refine ⟨j + 1, by omega, by go_num, fun i hi => ?_, hbw.alloc hbw.size _⟩
              by_cases hij : i = j
              · subst hij; exact HEQ.out
              · exact HJ.out i (by omega)
            case measure => simp [intOf]; omega
        · obtain rfl : j = k := by omega
          clear hbw hB5 hfin
          have hmul : (P : Int) * (mo l j : Int) = ((P * mo l j : Nat) : Int) := by rw [Int.natCast_mul]
          have hq := quot_gt (a := P) (m := mo l j) (by omega)
          by_cases hbig : 1000000000000 < P * mo l j
          · have HX : Hid (sysB l = false) := sys_no4 HKL.out (by rw [← HS.out.2]; exact hbig)
            have ht := hq.2 hbig
            clear hq hmul
            go_wp2_with (fail)
            refine (i_mod3 l j _ k1).mono ?_
            rintro e w7 ⟨rfl, hb7⟩
            have h7 := bel_call hfr hb7
            go_wp2_with (fail)
            go_ret
            exact ⟨ret_bool HX.out.symm, h7⟩
          · have ht : ¬ (1000000000000 / (mo l j : Int) < (P : Int)) := fun h => hbig (hq.1 h)
            have hm0 : 0 ≤ (P : Int) * (mo l j : Int) := by rw [hmul]; omega
            have hm1 : (P : Int) * (mo l j : Int) ≤ 1000000000000 := by rw [hmul]; omega
            have hm2 : 1 ≤ P * mo l j := Nat.mul_pos (by omega) (by omega)
            have HML := Lib.hid hmul
            clear hq hmul
            go_wp2_with (fail)
            refine (i_mod3 l j _ k1).mono ?_
            rintro e w7 ⟨rfl, hb7⟩
            have h7 := bel_call hfr hb7
            clear c0 c1 c2
            obtain ⟨c0, c1, c2, _, _, _⟩ := (hB6.of_below hb7).three
            go_wp2_with (fail)
            refine (i_mod3 l j _ k1).mono ?_
            rintro e w8 ⟨rfl, hb8⟩
            have h8 := bel_call h7 hb8
            go_wp2_with (fail)
            go_roundw
            case rel => exact ⟨j + 1, P * mo l j, by omega, hm2, by omega, by go_num, by rw [HML.out], ⟨HS.out.1.succ k1 k2 HJ.out (by rw [← HS.out.2]; exact hbig), by show _ = pr l j * mo l j; rw [HS.out.2]⟩, h8⟩
            case measure => simp [intOf]; omega
    · obtain rfl : k = n := by omega
      have HX : Hid (sysB l = decide ((k : Int) ≤ 8)) := by
        unfold Hid
        have h1 := HS.out.1
        rw [HN.out] at h1
        rw [sys_end h1, ← HN.out, Bool.eq_iff_iff, decide_eq_true_eq, decide_eq_true_eq]; omega
      go_wp2_with (fail)
      go_ret
      exact ⟨ret_bool HX.out.symm, hb⟩
end Go.Proofs.Ythjoegoeaiemdaa

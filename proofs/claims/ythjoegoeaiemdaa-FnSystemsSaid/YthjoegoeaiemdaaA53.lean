/- Contracts: spec.l31System, impl.isSystem. -/
import Derived.Test.YthjoegoeaiemdaaA51
import Derived.Test.YthjoegoeaiemdaaA52
import Derived.Lib.QuietBelow
namespace Go.Proofs.Ythjoegoeaiemdaa
set_option linter.unusedVariables false
set_option linter.unusedSimpArgs false
open Go.RowKit

/-- What fails at index k makes the list no system. -/
theorem sys_no1 {l : List Z3} {k : Nat} (hk : k < l.length) (h : ringB (g3 l k).1 (g3 l k).2.1 = false) : sysB l = false := sysB_f fun hp => by
  have := (hp.1 k hk).1
  rw [h] at this; cases this
theorem sys_no2 {l : List Z3} {k : Nat} (hk : k < l.length) (h : inB (g3 l k).2.2 0 ((mo l k : Int) - 1) = false) : sysB l = false := sysB_f fun hp => by
  have := (hp.1 k hk).2.1
  rw [h] at this; cases this
theorem sys_no3 {l : List Z3} {k j : Nat} (hk : k < l.length) (hj : j < k) (h : (g3 l j).1 = (g3 l k).1) : sysB l = false := sysB_f fun hp => (hp.1 k hk).2.2.1 j hj h
theorem sys_no4 {l : List Z3} {k : Nat} (hk : k < l.length) (h : 1000000000000 < pr l k * mo l k) : sysB l = false := sysB_f fun hp => by
  have := (hp.1 k hk).2.2.2
  have e : pr l (k + 1) = pr l k * mo l k := rfl
  omega
theorem sys_end {l : List Z3} (h : SysTo l l.length) : sysB l = decide (l.length ≤ 8) := by
  by_cases h8 : l.length ≤ 8
  · rw [sysB_t ⟨h, h8⟩]; simp [h8]
  · rw [sysB_f fun hp => h8 hp.2]; simp [h8]
theorem quot_gt {a m : Nat} (hm : 0 < m) : (1000000000000 / (m : Int) < (a : Int)) ↔ 1000000000000 < a * m := by
  have h1 : (1000000000000 : Int) / (m : Int) = ((1000000000000 / m : Nat) : Int) := by simp
  rw [h1]
  have h2 := Nat.div_lt_iff_lt_mul (x := 1000000000000) (y := a) hm
  omega
theorem SysTo.succ {l : List Z3} {k : Nat} (h : SysTo l k) (h1 : ringB (g3 l k).1 (g3 l k).2.1 = true) (h2 : inB (g3 l k).2.2 0 ((mo l k : Int) - 1) = true) (h3 : ∀ j, j < k → (g3 l j).1 ≠ (g3 l k).1) (h4 : ¬ 1000000000000 < pr l k * mo l k) : SysTo l (k + 1) := by
  intro i hi
  by_cases hik : i = k
  · subst hik
    exact ⟨h1, h2, h3, by show pr l i * mo l i ≤ _; omega⟩
  · exact h i (by omega)
theorem keepA3 {w0 w1 w2 : World} {a b c : Addr} {x y z : Value} (ha : a.block < w0.heap.size) (hb : b.block < w0.heap.size) (hc : c.block < w0.heap.size)
    (h : Below w0.heap.size w0 w1 ∧ w1.cell? a = some x ∧ w1.cell? b = some y ∧ w1.cell? c = some z) (hbl : Below w1.heap.size w1 w2) :
    Below w0.heap.size w0 w2 ∧ w2.cell? a = some x ∧ w2.cell? b = some y ∧ w2.cell? c = some z := by
  obtain ⟨h0, h1, h2, h3⟩ := h
  have hs := h0.size
  exact ⟨h0.trans (hbl.mono hs), (hbl.cell (by omega)).trans h1, (hbl.cell (by omega)).trans h2, (hbl.cell (by omega)).trans h3⟩
theorem s_mod3 (l : List Z3) (k : Nat) (w : World) (h : ringB (g3 l k).1 (g3 l k).2.1 = true) : Calls Try.prog 84 #[.int .i64 (g3 l k).1, .int .i64 (g3 l k).2.1] w (Q (.int .i64 (mo l k : Nat)) w) := by
  obtain ⟨p1, p2, n1, n2, hb, _⟩ := ringB_bd h
  have hc := s_l02Modulus (g3 l k).1.toNat (g3 l k).2.1.toNat w (by omega) (by omega) (by omega)
  rw [Int.toNat_of_nonneg (by omega), Int.toNat_of_nonneg (by omega), md_ring rfl hb] at hc
  exact hc
theorem s_IsRingB (p n : Int) (w : World) (hp0 : -9223372036854775808 ≤ p) {b : Bool} (h : ringB p n = b) : Calls Try.prog 141 #[.agg #[.int .i64 p, .int .i64 n]] w (M (.bool b) w) := by
  subst h; exact s_IsRing p n w hp0
theorem i_IsRingB (p n : Int) (w : World) (hp0 : -9223372036854775808 ≤ p) {b : Bool} (h : ringB p n = b) : Calls Try.prog 137 #[.agg #[.int .i64 p, .int .i64 n]] w (M (.bool b) w) := by
  subst h; exact i_IsRing p n w hp0
set_option maxHeartbeats 4000000 in
theorem s_l31System (A : Option Addr) (n c : Nat) (l : List Z3) (w : World) (hn : n = l.length) (hl : n ≤ 1048576) (hr : R3 l) (hs : IT w w.heap.size A l) :
    Calls Try.prog 76 #[.slice A n c] w (M (.bool (sysB l)) w) := by
  have HN := Lib.hid hn
  have HR := Lib.hid hr
  clear hn hr
  go_enter Try.func76, Try.ntmps76
  go_wp2_with (fail)
  go_loopw [3, 4] (fun u3 u4 wr => ∃ k P : Nat, k ≤ n ∧ 1 ≤ P ∧ P ≤ 1000000000000 ∧ u4 = .int .i64 k ∧ u3 = .int .i64 P ∧ Hid (SysTo l k ∧ P = pr l k) ∧ Below w.heap.size w wr) (fun _ u4 _ => n - (intOf u4).toNat)
  case atStart => exact ⟨0, 1, Nat.zero_le _, by omega, by omega, rfl, rfl, ⟨fun i hi => by omega, rfl⟩, Below.refl _ _⟩
  case round =>
    obtain ⟨k, P, hk, hP1, hP2, rfl, rfl, HS, hb⟩ := hrel
    obtain ⟨wo, rfl⟩ : ∃ wo : World, wo = wr := ⟨_, rfl⟩
    by_cases hlt : k < n
    · have hkl : k < l.length := by rw [← HN.out]; exact hlt
      obtain ⟨b, off, rfl, hbb, hcell⟩ := IT.at hs (k := k) hkl
      obtain ⟨h0, h1, h2⟩ := hcell k hkl
      have HCELL := Lib.hid hcell
      have e0 := (hb.cell (p := ⟨b, off + k * 3, none⟩) hbb).trans h0
      have e1 := (hb.cell (p := ⟨b, off + k * 3 + 1, none⟩) hbb).trans h1
      have e2 := (hb.cell (p := ⟨b, off + k * 3 + 2, none⟩) hbb).trans h2
      have hsz := hb.size
      have hp0 := (HR.out k hkl).1.1
      have HKL := Lib.hid hkl
      clear hcell h0 h1 h2 hkl
      go_wp2_with (fail)
      have hB := BK.new wo 93 #[.int .i64 (g3 l k).1, .int .i64 (g3 l k).2.1]
      have e3 := ((BoxB wo (.cells #[.int .i64 (g3 l k).1, .int .i64 (g3 l k).2.1] 93)).cell (p := ⟨b, off + k * 3 + 2, none⟩) (by simp; omega)).trans e2
      have hb1 := bel_call hb (BoxB wo (.cells #[.int .i64 (g3 l k).1, .int .i64 (g3 l k).2.1] 93))
      have hz1 : wo.heap.size < (wo.alloc (.cells #[.int .i64 (g3 l k).1, .int .i64 (g3 l k).2.1] 93)).heap.size := hB.lt
      clear e0 e1 e2
      generalize wo.alloc (.cells #[.int .i64 (g3 l k).1, .int .i64 (g3 l k).2.1] 93) = w1 at *
      obtain ⟨c0, c1, _, _⟩ := hB.two
      have hst : Below w1.heap.size w1 w1.drew ∧ w1.drew.cell? ⟨wo.heap.size, 0, none⟩ = some (.int .i64 (g3 l k).1) ∧ w1.drew.cell? ⟨wo.heap.size, 1, none⟩ = some (.int .i64 (g3 l k).2.1) ∧ w1.drew.cell? ⟨b, off + k * 3 + 2, none⟩ = some (.int .i64 (g3 l k).2.2) := ⟨(Below.refl _ _).drew, c0, c1, e3⟩
      clear c0 c1 e3
      have hbw1 : b < w1.heap.size := by omega
      cases k1 : ringB (g3 l k).1 (g3 l k).2.1
      · have HX : Hid (sysB l = false) := sys_no1 HKL.out k1
        clear hst
        obtain ⟨c0, c1, _, _⟩ := hB.two
        have q0 := fun d os => cell_regrown c0 d os
        have q1 := fun d os => cell_regrown c1 d os
        clear c0 c1
        refine wp_region_quiet_below (by kernel_rfl) (by kernel_rfl) ?_
        repeat (first | go_big_quiet_step ((go_at_call 141; exact Calls.regrown_of (s_IsRingB _ _ _ hp0 k1))) | quiet_step ((go_at_call 141; exact Calls.regrown_of (s_IsRingB _ _ _ hp0 k1))))
        refine wpQuiet_nil ?_
        intro _ hw'
        obtain ⟨⟨dq, osq⟩, hw''⟩ := hw'
        subst hw''
        have hb5 := below_regrown w1 dq osq
        generalize Go.Sort.grow (redrawn w1 dq) osq = w5 at *
        have hfin := bel_call hb1 hb5
        go_wp2_with (fail)
        go_ret
        exact ⟨ret_bool HX.out.symm, hfin⟩
      obtain ⟨m1, m2⟩ := mo_bd k1
      have hwr : IntKind.i64.wrap ((mo l k : Int) - 1) = (mo l k : Int) - 1 := IntWalk.i64_in _ (by omega)
      cases k2 : inB (g3 l k).2.2 0 ((mo l k : Int) - 1)
      all_goals
        go_region_held3 (fun w' => Below w1.heap.size w1 w' ∧ w'.cell? ⟨wo.heap.size, 0, none⟩ = some (.int .i64 (g3 l k).1) ∧ w'.cell? ⟨wo.heap.size, 1, none⟩ = some (.int .i64 (g3 l k).2.1) ∧ w'.cell? ⟨b, off + k * 3 + 2, none⟩ = some (.int .i64 (g3 l k).2.2)) ((first | exact hst | (refine keepA3 hz1 hz1 hbw1 ?_ hb5; assumption)))
          (first | (go_at_call 141; refine (s_IsRing _ _ _ hp0).mono ?_; rw [k1]; rintro e w5 ⟨rfl, hb5⟩) | (go_at_call 84; refine ((s_mod3 l k _ k1).mono fun _ _ h => Q.toM h).mono ?_; rintro e w5 ⟨rfl, hb5⟩) | (go_at_call 90; refine ((s_l01In _ _ _ _).mono fun _ _ h => Q.toM h).mono ?_; rw [k2]; rintro e w5 ⟨rfl, hb5⟩))
        have hS : Below w1.heap.size w1 w5 ∧ w5.cell? ⟨wo.heap.size, 0, none⟩ = some (.int .i64 (g3 l k).1) ∧ w5.cell? ⟨wo.heap.size, 1, none⟩ = some (.int .i64 (g3 l k).2.1) ∧ w5.cell? ⟨b, off + k * 3 + 2, none⟩ = some (.int .i64 (g3 l k).2.2) := by assumption
        have hfin := bel_call hb1 hS.1
        obtain ⟨_, c0, c1, _⟩ := hS
        clear hst hwr
      · have HX : Hid (sysB l = false) := sys_no2 HKL.out k2
        go_wp2_with (fail)
        go_ret
        exact ⟨ret_bool HX.out.symm, hfin⟩
      clear hb hB hsz hz1 hb1
      go_wp2_with (fail)
      go_loopw [6] (fun u6 wr => ∃ j : Nat, j ≤ k ∧ u6 = .int .i64 j ∧ Hid (∀ i, i < j → (g3 l i).1 ≠ (g3 l k).1) ∧ DR w5 wr) (fun u6 _ => k - (intOf u6).toNat)
      case atStart => exact ⟨0, Nat.zero_le _, rfl, fun i hi => by omega, DR.refl _⟩
      case round =>
        obtain ⟨j, hj, rfl, HJ, hdr⟩ := hrel
        by_cases hjk : j < k
        · have f0 := (hdr.cell _).trans ((hfin.cell (p := ⟨b, off + j * 3, none⟩) hbb).trans (HCELL.out j (by have := HKL.out; omega)).1)
          have f1 := (hdr.cell _).trans c0
          by_cases heq : (g3 l j).1 = (g3 l k).1
          · have HX : Hid (sysB l = false) := sys_no3 HKL.out hjk heq
            have h6 : ((g3 l j).1 == (g3 l k).1) = true := by rw [beq_iff_eq]; exact heq
            clear heq
            go_wp2_with (go_quiet (fail))
            go_ret
            refine ⟨ret_bool HX.out.symm, ?_⟩
            obtain ⟨m, rfl⟩ := hdr
            repeat (first | exact hfin | refine below_drewN ?_ _)
          · have h6 : ((g3 l j).1 == (g3 l k).1) = false := by rw [beq_eq_false_iff_ne]; exact heq
            have HEQ := Lib.hid heq
            clear heq
            go_wp2_with (go_quiet (fail))
            go_roundw
            case rel =>
              refine ⟨j + 1, by omega, by go_num, fun i hi => ?_, by repeat (first | exact hdr | refine DR.step ?_ _)⟩
              by_cases hij : i = j
              · subst hij; exact HEQ.out
              · exact HJ.out i (by omega)
            case measure => simp [intOf]; omega
        · obtain rfl : j = k := by omega
          have f0 := (hdr.cell _).trans c0
          have f1 := (hdr.cell _).trans c1
          have hbr : Below w.heap.size w wr := by
            obtain ⟨m, rfl⟩ := hdr
            exact below_drewN hfin _
          clear hdr c0 c1 hfin
          have hmul : (P : Int) * (mo l j : Int) = ((P * mo l j : Nat) : Int) := by rw [Int.natCast_mul]
          have hq := quot_gt (a := P) (m := mo l j) (by omega)
          by_cases hbig : 1000000000000 < P * mo l j
          · have HX : Hid (sysB l = false) := sys_no4 HKL.out (by rw [← HS.out.2]; exact hbig)
            have ht := hq.2 hbig
            clear hq hmul
            go_wp2_with (go_at_call 84; refine (s_mod3 l j _ k1).mono ?_; rintro e w' ⟨rfl, nq, rfl⟩)
            go_ret
            exact ⟨ret_bool HX.out.symm, below_drewN hbr _⟩
          · have ht : ¬ (1000000000000 / (mo l j : Int) < (P : Int)) := fun h => hbig (hq.1 h)
            have hm0 : 0 ≤ (P : Int) * (mo l j : Int) := by rw [hmul]; omega
            have hm1 : (P : Int) * (mo l j : Int) ≤ 1000000000000 := by rw [hmul]; omega
            have hm2 : 1 ≤ P * mo l j := Nat.mul_pos (by omega) (by omega)
            have HML := Lib.hid hmul
            clear hq hmul
            go_wp2_with (go_at_call 84; refine (s_mod3 l j _ k1).mono ?_; rintro e w' ⟨rfl, nq, rfl⟩)
            go_roundw
            case rel => exact ⟨j + 1, P * mo l j, by omega, hm2, by omega, by go_num, by rw [HML.out], ⟨HS.out.1.succ k1 k2 HJ.out (by rw [← HS.out.2]; exact hbig), by show _ = pr l j * mo l j; rw [HS.out.2]⟩, below_drewN hbr _⟩
            case measure => simp [intOf]; omega
    · obtain rfl : k = n := by omega
      have HX : Hid (sysB l = decide ((k : Int) ≤ 8)) := by
        unfold Hid
        have h1 := HS.out.1
        rw [HN.out] at h1
        rw [sys_end h1, ← HN.out, Bool.eq_iff_iff, decide_eq_true_eq, decide_eq_true_eq]; omega
      go_wp2_with (fail)
      go_ret
      exact ⟨ret_bool HX.out.symm, hb⟩
end Go.Proofs.Ythjoegoeaiemdaa

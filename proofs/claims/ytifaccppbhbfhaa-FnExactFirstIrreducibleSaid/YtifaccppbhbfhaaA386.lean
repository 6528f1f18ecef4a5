/- Contracts: FirstIrreducible, by the program. -/
import Derived.Test.YtifaccppbhbfhaaA385
import Derived.Test.YtifaccppbhbfhaaA383
namespace Go.Proofs.Ytifaccppbhbfhaa
set_option linter.unusedVariables false
set_option linter.unusedSimpArgs false
open Go.RowKit

/-- The first irreducible polynomial of a degree. -/
noncomputable def fiL (P : Nat) [NeZero P] (d : Nat) : List Int := frF (irV P) P d
theorem fiL_len (P : Nat) [NeZero P] (d : Nat) : (fiL P d).length ≤ d + 1 := frs_len _ _ _ _ _
noncomputable def fiA (p n : Int) : List Int := if h : p.toNat = 0 then [] else @fiL p.toNat ⟨h⟩ n.toNat
theorem fiA_nat (P : Nat) [NeZero P] (d : Nat) : fiA (P : Int) (d : Int) = fiL P d := by
  unfold fiA
  rw [dif_neg (by rw [Int.toNat_natCast]; exact NeZero.ne P)]
  rfl
/-- The code of a prime and a degree. -/
noncomputable def cntC (p n : Int) : Int := if smallB p = true then (if inB n 1 4 = true then 0 else 2) else 1
noncomputable def fiB (p n : Int) : List Int := if cntC p n = 0 then fiA p n else []
theorem cntC_0 {p n : Int} (h : cntC p n = 0) : smallB p = true ∧ 1 ≤ n ∧ n ≤ 4 := by
  unfold cntC at h
  by_cases h1 : smallB p = true
  · rw [if_pos h1] at h
    by_cases h2 : inB n 1 4 = true
    · have := inB_true h2
      exact ⟨h1, this.1, this.2⟩
    · rw [if_neg h2] at h; cases h
  · rw [if_neg h1] at h; cases h
set_option maxHeartbeats 1000000 in
theorem i_counting (p n : Int) (w : World) : Calls Try.prog 31 #[.int .i64 p, .int .i64 n, .int .i64 1, .int .i64 4] w (Q (.int .i64 (cntC p n)) w) := by
  cases h1 : smallB p with
  | false =>
    have HC : Hid (cntC p n = 1) := by unfold Hid cntC; rw [h1]; rfl
    go_enter Try.func31, Try.ntmps31
    go_wp2_with (first | (go_at_call 38; refine (i_isSmallPrime _ _).mono ?_; rintro e w1 ⟨rfl, q1, rfl⟩; rw [h1]))
    go_ret
    exact ⟨ret_int HC.out.symm, _, rfl⟩
  | true =>
    cases h2 : inB n 1 4 with
    | false =>
      have HC : Hid (cntC p n = 2) := by unfold Hid cntC; rw [h1, h2]; rfl
      go_enter Try.func31, Try.ntmps31
      go_wp2_with (first | (go_at_call 38; refine (i_isSmallPrime _ _).mono ?_; rintro e w1 ⟨rfl, q1, rfl⟩; rw [h1]) | (go_at_call 59; refine (i_within _ _ _ _).mono ?_; rintro e w2 ⟨rfl, q2, rfl⟩; rw [h2]))
      go_ret
      exact ⟨ret_int HC.out.symm, _, rfl⟩
    | true =>
      have HC : Hid (cntC p n = 0) := by unfold Hid cntC; rw [h1, h2]; rfl
      go_enter Try.func31, Try.ntmps31
      go_wp2_with (first | (go_at_call 38; refine (i_isSmallPrime _ _).mono ?_; rintro e w1 ⟨rfl, q1, rfl⟩; rw [h1]) | (go_at_call 59; refine (i_within _ _ _ _).mono ?_; rintro e w2 ⟨rfl, q2, rfl⟩; rw [h2]))
      go_ret
      exact ⟨ret_int HC.out.symm, _, rfl⟩
set_option maxHeartbeats 1000000 in
theorem s_l10Code (p n : Int) (w : World) (hp : -9223372036854775808 ≤ p) : Calls Try.prog 29 #[.int .i64 p, .int .i64 n, .int .i64 1, .int .i64 4] w (Q (.int .i64 (cntC p n)) w) := by
  cases h1 : smallB p with
  | false =>
    have HC : Hid (cntC p n = 1) := by unfold Hid cntC; rw [h1]; rfl
    go_enter Try.func29, Try.ntmps29
    go_wp2_with (first | (go_at_call 34; refine (s_l01Small _ _ hp).mono ?_; rintro e w1 ⟨rfl, q1, rfl⟩; rw [h1]))
    go_ret
    exact ⟨ret_int HC.out.symm, _, rfl⟩
  | true =>
    cases h2 : inB n 1 4 with
    | false =>
      have HC : Hid (cntC p n = 2) := by unfold Hid cntC; rw [h1, h2]; rfl
      go_enter Try.func29, Try.ntmps29
      go_wp2_with (first | (go_at_call 34; refine (s_l01Small _ _ hp).mono ?_; rintro e w1 ⟨rfl, q1, rfl⟩; rw [h1]) | (go_at_call 57; refine (s_l01In _ _ _ _).mono ?_; rintro e w2 ⟨rfl, q2, rfl⟩; rw [h2]))
      go_ret
      exact ⟨ret_int HC.out.symm, _, rfl⟩
    | true =>
      have HC : Hid (cntC p n = 0) := by unfold Hid cntC; rw [h1, h2]; rfl
      go_enter Try.func29, Try.ntmps29
      go_wp2_with (first | (go_at_call 34; refine (s_l01Small _ _ hp).mono ?_; rintro e w1 ⟨rfl, q1, rfl⟩; rw [h1]) | (go_at_call 57; refine (s_l01In _ _ _ _).mono ?_; rintro e w2 ⟨rfl, q2, rfl⟩; rw [h2]))
      go_ret
      exact ⟨ret_int HC.out.symm, _, rfl⟩
set_option maxRecDepth 20000 in
set_option maxHeartbeats 1000000 in
theorem i_irrFrom (P : Nat) [NeZero P] (hP : P ≤ 97) (hp : FX.Prm P) (d : Nat) (hd1 : 1 ≤ d) (hd : d ≤ 4) (w : World) : Calls Try.prog 32 #[.int .i64 (P : Int), .int .i64 (d : Int), .int .i64 ((P ^ d : Nat) : Int)] w
    (fun e w' => ∃ (A : Option Addr) (c : Nat) (b : Bool), e = .returned (.tuple #[.slice A (fiL P d).length c, .bool b]) ∧ w'.ownsRow w.heap.size 2 1 (.slice A (fiL P d).length c) (fiL P d).length (ints (fiL P d)) ∧ Below w.heap.size w w') := by
  have hp2 : 2 ≤ P := hp.1
  have hpb := pow_bd hP hd (by omega)
  have hpw := fun W => i_power P d W (by omega) (by omega) (by omega)
  have hwn := fun m W h => i_withNumber P d m hp2 hP hd h W
  have hir := fun m A c W h => i_irr P hP hp A (d + 1) c (pon P d m) W (pon_len P d m).symm (by omega) (by omega) (pon_can P hp2 d m) h
  have hyes := fun m h ht => frs_yes (t := irV P) (P := P) (d := d) (m := m) h ht
  have hno := fun m h ht => frs_no (t := irV P) (P := P) (d := d) (m := m) h ht
  have hend := frs_end (irV P) P d
  have h0 : Hid (frs (irV P) P d (P ^ d - 0) 0 = fiL P d) := rfl
  generalize fiL P d = ans at *
  generalize P ^ d = N at *
  have HYES := Lib.hid hyes
  have HNO := Lib.hid hno
  have HEND := Lib.hid hend
  have HWN := Lib.hid hwn
  have HIR := Lib.hid hir
  clear hyes hno hend hwn hir
  go_enter Try.func32, Try.ntmps32
  go_wp2_with (fail)
  go_loopw [2] (fun u2 wr => ∃ m : Nat, m ≤ N ∧ u2 = .int .i64 ((N + m : Nat) : Int) ∧ Hid (frs (irV P) P d (N - m) m = ans) ∧ Below w.heap.size w wr) (fun u2 _ => 2 * N - (intOf u2).toNat)
  case atStart => exact ⟨0, Nat.zero_le _, rfl, h0, Below.refl _ _⟩
  case round =>
    clear h0
    obtain ⟨wo, rfl⟩ : ∃ wo : World, wo = wr := ⟨_, rfl⟩
    obtain ⟨m, hm, rfl, HF, hb⟩ := hrel
    by_cases hlt : m < N
    · have hw := HWN.out m
      have hi := HIR.out m
      have hy := HYES.out m hlt
      have hn := HNO.out m hlt
      have hl := pon_len P d m
      generalize pon P d m = l at *
      have HL := Lib.hid hl
      have ht1 : ((N + m : Nat) : Int) < 2 * (N : Int) := by omega
      clear hl
      cases ht : irV P l with
      | true =>
        have HA : Hid (ans = l) := by unfold Hid; rw [← HF.out, hy ht]
        clear hy hn
        go_wp2_with (first
          | (go_at_call 33; refine (hpw _).mono ?_; rintro e w1 ⟨rfl, q1, rfl⟩)
          | (go_at_call 60; refine (hw _ hlt).mono ?_; rintro e w2 ⟨A2, c2, rfl, ho2, hb2⟩; rw [HL.out] at ho2 ⊢; have hi2 := hi A2 c2 w2 (own_isn ho2 HL.out.symm))
          | (go_at_call 23; refine hi2.mono ?_; clear hi2; rintro e w3 ⟨rfl, hb3⟩; rw [ht]))
        go_ret2
        rw [HA.out, HL.out]
        have hb2' := undrew hb2
        exact ⟨A2, c2, true, rfl, own_mono (own_below ho2 hb3) (by have := hb.size; simp; omega), bel_call (bel_call hb hb2') hb3⟩
      | false =>
        have HF2 : Hid (frs (irV P) P d (N - (m + 1)) (m + 1) = ans) := by unfold Hid; rw [← HF.out, hn ht]
        clear hy hn
        go_wp2_with (first
          | (go_at_call 33; refine (hpw _).mono ?_; rintro e w1 ⟨rfl, q1, rfl⟩)
          | (go_at_call 60; refine (hw _ hlt).mono ?_; rintro e w2 ⟨A2, c2, rfl, ho2, hb2⟩; rw [HL.out] at ho2 ⊢; have hi2 := hi A2 c2 w2 (own_isn ho2 HL.out.symm))
          | (go_at_call 23; refine hi2.mono ?_; clear hi2; rintro e w3 ⟨rfl, hb3⟩; rw [ht]))
        have hb2' := undrew hb2
        go_roundw
        case rel => exact ⟨m + 1, by omega, by go_num, HF2, bel_call (bel_call hb hb2') hb3⟩
        case measure => simp [intOf]; omega
    · obtain rfl : N = m := by omega
      have HA : Hid (ans = []) := by unfold Hid; rw [← HF.out, HEND.out]
      have ht1 : 2 * (N : Int) ≤ ((N + N : Nat) : Int) := by omega
      clear hlt
      go_wp2_with (first
          | (go_at_call 33; refine (hpw _).mono ?_; rintro e w1 ⟨rfl, q1, rfl⟩))
      go_ret2
      rw [HA.out]
      exact ⟨none, 0, false, rfl, World.ownsRow_nil _ _ _ _, below_drewN hb _⟩
set_option maxHeartbeats 1000000 in
theorem i_FirstIrreducible (p n : Int) (w : World) : Calls Try.prog 18 #[.int .i64 p, .int .i64 n] w (LCR w.heap.size (fiB p n) (cntC p n) w) := by
  have hm := i_counting p n w
  by_cases h1 : cntC p n = 0
  · obtain ⟨g1, g2, g3⟩ := cntC_0 h1
    obtain ⟨P, rfl, hp, hp2, hp97⟩ := FX.prm_of g1
    obtain ⟨d, rfl⟩ : ∃ d : Nat, n = (d : Int) := ⟨n.toNat, by omega⟩
    haveI : NeZero P := ⟨by omega⟩
    have hpb := pow_bd hp97 (show d ≤ 4 by omega) (by omega)
    have hpw := fun W => i_power P d W (by omega) (by omega) (by omega)
    have hfr := fun W => i_irrFrom P hp97 hp d (by omega) (by omega) W
    have HB : Hid (fiB (P : Int) (d : Int) = fiL P d) := by unfold Hid fiB; rw [if_pos h1, fiA_nat]
    have h9 : (fiL P d).length ≤ 9 := by have := fiL_len P d; omega
    have HC := Lib.hid h1
    rw [h1] at hm
    generalize P ^ d = N at *
    generalize fiL P d = l at *
    obtain ⟨L, hL⟩ : ∃ L, L = l.length := ⟨_, rfl⟩
    rw [← hL] at hfr
    have HL := Lib.hid hL
    have H9 := Lib.hid h9
    clear h1 g1 g2 g3 hL h9
    go_enter Try.func18, Try.ntmps18
    go_wp2_with (first
      | (go_at_call 31; refine hm.mono ?_; rintro e w1 ⟨rfl, q1, rfl⟩)
      | (go_at_call 33; refine (hpw _).mono ?_; rintro e w2 ⟨rfl, q2, rfl⟩)
      | (go_at_call 32; refine (hfr _).mono ?_; rintro e w3 ⟨A3, c3, b3, rfl, ho3, hb3⟩))
    go_ret2
    rw [HB.out, HC.out]
    exact ⟨H9.out, A3, c3, by rw [HL.out]; rfl, by rw [← HL.out]; exact ho3, undrew hb3⟩
  · have HB : Hid (fiB p n = []) := by unfold Hid fiB; rw [if_neg h1]
    generalize cntC p n = cd at *
    have h1' : (cd == 0) = false := by rw [beq_eq_false_iff_ne]; exact h1
    clear h1
    go_enter Try.func18, Try.ntmps18
    go_wp2_with (go_at_call 31; refine hm.mono ?_; rintro e w1 ⟨rfl, q1, rfl⟩)
    go_ret2
    rw [HB.out]
    exact LCR.nil _ _ _ rfl (below_drewN (Below.refl _ _) _)
end Go.Proofs.Ytifaccppbhbfhaa

/- Walks: ProductOfAll, SupportOf. -/
import Derived.Test.YthjoegoeaiemdaaA28
import Derived.Test.YthjoegoeaiemdaaA30
import Derived.Test.YthjoegoeaiemdaaA20
namespace Go.Proofs.Ythjoegoeaiemdaa
set_option linter.unusedVariables false
set_option linter.unusedSimpArgs false
open Go.RowKit

set_option maxHeartbeats 1000000 in
theorem i_ProductOfAll (a b : Int) (w : World) : Calls Try.prog 46 #[.agg #[.int .i64 a, .int .i64 b]] w (MR (pN a b) (pD a b) (rcode a b) w) := by
  by_cases h0 : rcode a b = 0
  · obtain ⟨h1, ha0⟩ := rcode_0 h0
    have HN : Hid (pN a b = (stp 98 a.natAbs : Int)) := by unfold Hid pN; rw [if_pos h0]
    have HD : Hid (pD a b = (stp 98 b.natAbs : Int)) := by unfold Hid pD; rw [if_pos h0]
    have H0 := Lib.hid h0
    have HA := Lib.hid ha0
    clear h0 ha0
    go_enter Try.func46, Try.ntmps46
    go_wp2_with (fail)
    obtain ⟨B1, B2⟩ := two_boxes w 61 61 #[.int .i64 a, .int .i64 b] #[.int .i64 0, .int .i64 0]
    refine (i_nonzero _ _ _).mono ?_
    rw [H0.out]
    rintro e w1 ⟨rfl, hb1⟩
    have b1 := bel_call (two_alloc w _ _) hb1
    obtain ⟨c1, c2, _, _⟩ := (B1.of_below hb1).two
    have B3 := B2.of_below hb1
    clear B1 B2 hb1
    go_wp2_with (fail)
    refine (i_strip a b _ HA.out h1).mono ?_
    rintro e w2 ⟨A, c, rfl, hown, hb2⟩
    have b2 := bel_call b1 hb2
    have B4 := B3.of_below hb2
    have hz := B4.lt
    obtain ⟨d1, d2, d3, d4⟩ := B4.two
    have hsz := b2.size
    generalize hX : (stp 98 a.natAbs : Int) = X at *
    generalize hY : (stp 98 b.natAbs : Int) = Y at *
    go_wp2_with (fail)
    obtain ⟨q0, q1, _, _⟩ := BK.two (x := .int .i64 X) (y := .int .i64 Y) (by simpa using (((B4.set 0 (.int .i64 X)).set 1 (.int .i64 Y)).alloc (.cells #[.int .i64 X, .int .i64 Y] 61)))
    refine bodyPost_ret (by simp [results, Try.results46, go_sem, q0, q1]; try rfl) rfl ?_
    refine ⟨ret_aii HN.out.symm HD.out.symm H0.out.symm, ?_⟩
    exact ((b2.setCell (by simp) _).setCell (by simp) _).alloc (by simp; omega) _
  · have HN : Hid (pN a b = 0) := by unfold Hid pN; rw [if_neg h0]
    have HD : Hid (pD a b = 0) := by unfold Hid pD; rw [if_neg h0]
    have hx : (rcode a b != 0) = true := by simpa using h0
    clear h0
    go_enter Try.func46, Try.ntmps46
    go_wp2_with (fail)
    obtain ⟨B1, B2⟩ := two_boxes w 61 61 #[.int .i64 a, .int .i64 b] #[.int .i64 0, .int .i64 0]
    refine (i_nonzero _ _ _).mono ?_
    rintro e w1 ⟨rfl, hb1⟩
    have b1 := bel_call (two_alloc w _ _) hb1
    have B3 := B2.of_below hb1
    obtain ⟨d1, d2, d3, d4⟩ := B3.two
    clear B1 B2 hb1
    go_wp2_with (fail)
    obtain ⟨hW0, hW1⟩ := set2 (w := w1) (x := .int .i64 0) (y := .int .i64 0) B3
    refine bodyPost_ret (by simp [results, Try.results46, go_sem, hW0, hW1]; try rfl) rfl ?_
    refine ⟨ret_aii HN.out.symm HD.out.symm rfl, ?_⟩
    repeat (first | exact b1 | refine below_drewN ?_ _ | refine Below.setCell ?_ (by simp <;> omega) _)
noncomputable def suC (a b : Int) : Int := if rcode a b = 0 then (if stp 98 a.natAbs = 1 ∧ stp 98 b.natAbs = 1 then 0 else 3) else rcode a b
noncomputable def suL (a b : Int) : List Int := if suC a b = 0 then sup a.natAbs b.natAbs 98 else []
theorem suL_len (a b : Int) : (suL a b).length ≤ 1048576 := by
  unfold suL
  split
  · have := sup_len a.natAbs b.natAbs 98; omega
  · simp
set_option maxHeartbeats 1000000 in
theorem i_SupportOf (a b : Int) (w : World) : Calls Try.prog 48 #[.agg #[.int .i64 a, .int .i64 b]] w (RS (suL a b) (suC a b) w) := by
  by_cases h0 : rcode a b = 0
  · obtain ⟨h1, ha0⟩ := rcode_0 h0
    have hC : suC a b = if stp 98 a.natAbs = 1 ∧ stp 98 b.natAbs = 1 then 0 else 3 := by unfold suC; rw [if_pos h0]
    have H0 := Lib.hid h0
    have HA := Lib.hid ha0
    clear h0 ha0
    by_cases hok : stp 98 a.natAbs = 1 ∧ stp 98 b.natAbs = 1
    · have HC : Hid (suC a b = 0) := by unfold Hid; rw [hC, if_pos hok]
      have HL : Hid (suL a b = sup a.natAbs b.natAbs 98) := by unfold Hid suL; rw [if_pos HC.out]
      have HX : Hid ((stp 98 a.natAbs : Int) = 1) := by unfold Hid; omega
      have HY : Hid ((stp 98 b.natAbs : Int) = 1) := by unfold Hid; omega
      clear hC hok
      go_enter Try.func48, Try.ntmps48
      go_wp2_with (fail)
      have B1 := BK.new w 61 #[.int .i64 a, .int .i64 b]
      refine (i_nonzero _ _ _).mono ?_
      rw [H0.out]
      rintro e w1 ⟨rfl, hb1⟩
      have b1 := bel_call ((Below.refl w.heap.size w).alloc (Nat.le_refl _) _) hb1
      obtain ⟨c1, c2, _, _⟩ := (B1.of_below hb1).two
      clear B1 hb1
      go_wp2_with (fail)
      refine (i_strip a b _ HA.out h1).mono ?_
      rw [HX.out, HY.out, ← HL.out]
      rintro e w2 ⟨A, c, rfl, hown, hb2⟩
      have b2 := bel_call b1 hb2
      have hsz := b2.size
      have hsz1 := b1.size
      go_wp2_with (fail)
      go_ret2
      rw [HC.out]
      exact ⟨A, c, rfl, own_mono (World.ownsRow.alloc hown _) hsz1, b2.alloc hsz _⟩
    · have HC : Hid (suC a b = 3) := by unfold Hid; rw [hC, if_neg hok]
      have HL : Hid (suL a b = []) := by unfold Hid suL; rw [HC.out]; rfl
      have hor : ((stp 98 a.natAbs : Int) == 1) = false ∨ ((stp 98 b.natAbs : Int) == 1) = false := by
        by_cases h : stp 98 a.natAbs = 1
        · right; rw [beq_eq_false_iff_ne]; intro h2; exact hok ⟨h, by omega⟩
        · left; rw [beq_eq_false_iff_ne]; omega
      generalize hX : (stp 98 a.natAbs : Int) = X at *
      generalize hY : (stp 98 b.natAbs : Int) = Y at *
      have HX := Lib.hid hX
      have HY := Lib.hid hY
      clear hC hok hX hY
      rcases hor with hor | hor
      all_goals
        go_enter Try.func48, Try.ntmps48
        go_wp2_with (fail)
        have B1 := BK.new w 61 #[.int .i64 a, .int .i64 b]
        refine (i_nonzero _ _ _).mono ?_
        rw [H0.out]
        rintro e w1 ⟨rfl, hb1⟩
        have b1 := bel_call ((Below.refl w.heap.size w).alloc (Nat.le_refl _) _) hb1
        obtain ⟨c1, c2, _, _⟩ := (B1.of_below hb1).two
        clear B1 hb1
        go_wp2_with (fail)
        refine (i_strip a b _ HA.out h1).mono ?_
        rw [HX.out, HY.out]
        rintro e w2 ⟨A, c, rfl, hown, hb2⟩
        have b2 := bel_call b1 hb2
        have hsz := b2.size
        go_wp2_with (fail)
        go_ret2
        rw [HC.out, HL.out]
        exact RS.nil (b2.alloc hsz _)
  · have HC : Hid (suC a b = rcode a b) := by unfold Hid suC; rw [if_neg h0]
    have HL : Hid (suL a b = []) := by unfold Hid suL; rw [HC.out, if_neg h0]
    have hx : (rcode a b != 0) = true := by simpa using h0
    clear h0
    go_enter Try.func48, Try.ntmps48
    go_wp2_with (fail)
    refine (i_nonzero _ _ _).mono ?_
    rintro e w1 ⟨rfl, hb1⟩
    have b1 := bel_call ((Below.refl w.heap.size w).alloc (Nat.le_refl _) _) hb1
    go_wp2_with (fail)
    go_ret2
    rw [HC.out, HL.out]
    exact RS.nil b1
end Go.Proofs.Ythjoegoeaiemdaa

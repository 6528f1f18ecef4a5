/- RationalRoots: the program's insertion sort. -/
import Derived.Test.YtglijcdnnaekkaaA293
import Derived.Test.YtglijcdnnaekkaaA266
namespace Go.Proofs.Ytglijcdnnaekkaa
set_option linter.unusedVariables false
set_option linter.unusedSimpArgs false
open Go.RowKit

theorem cmp_befQ (x y : Int × Int) : (cmpN (x.1 * y.2) (y.1 * x.2) < 0) = (befQ x y = true) := by
  unfold cmpN befQ
  rw [decide_eq_true_eq]
  by_cases h : x.1 * y.2 < y.1 * x.2
  · simp [h]
  · by_cases h2 : y.1 * x.2 < x.1 * y.2 <;> simp [h, h2]
set_option maxRecDepth 10000 in
set_option maxHeartbeats 4000000 in
theorem c_insSortQ (g n c base : Nat) (l : List (Int × Int)) (w : World) (hn : n = l.length) (h1 : 1 ≤ n) (hl : n ≤ 12) (hbd : ∀ a ∈ l, (-60 ≤ a.1 ∧ a.1 ≤ 60) ∧ -60 ≤ a.2 ∧ a.2 ≤ 60) (ho : w.ownsRow base 46 2 (.slice (some ⟨g, 0, none⟩) n c) n (rC l)) :
    Calls Try.prog 143 #[.slice (some ⟨g, 0, none⟩) n c, .int .i64 0, .int .i64 n, .func (.func 71) #[] #[]] w (fun e w' => e = .returned (.tuple #[]) ∧ w'.ownsRow base 46 2 (.slice (some ⟨g, 0, none⟩) n c) n (rC (srtQ l)) ∧ w.grownBy w' (some g)) := by
  have HN := Lib.hid hn
  have HBD := Lib.hid hbd
  have hg0 : w.grownBy w (some g) := ⟨rfl, rfl, rfl, Nat.le_refl _, fun _ _ _ => rfl⟩
  have hone : srtQ (l.take 1) ++ l.drop 1 = l := by
    rw [gPr_take (by omega)]
    cases l with
    | nil => simp at hn; omega
    | cons x l => simp [srtQ, insQ, atQ, gPr]
  have HONE := Lib.hid hone
  have hall : srtQ (l.take n) ++ l.drop n = srtQ l := by rw [hn, List.take_length, List.drop_length, List.append_nil]
  have HALL := Lib.hid hall
  clear hn hbd hone hall
  go_enter Try.func143, Try.ntmps143
  go_wp2_with (fail)
  go_loopw [8] (fun u8 wr => ∃ i : Nat, 1 ≤ i ∧ i ≤ n ∧ u8 = .int .i64 i ∧ wr.ownsRow base 46 2 (.slice (some ⟨g, 0, none⟩) n c) n (rC (srtQ (l.take i) ++ l.drop i)) ∧ w.grownBy wr (some g)) (fun u8 _ => n - (intOf u8).toNat)
  case atStart => exact ⟨1, Nat.le_refl _, h1, rfl, by rw [HONE.out]; exact ho, hg0⟩
  case round =>
    clear ho hg0
    obtain ⟨wo, rfl⟩ : ∃ wo : World, wo = wr := ⟨_, rfl⟩
    obtain ⟨i, hi1, hi, rfl, ho, hg⟩ := hrel
    by_cases hlt : i < n
    · have hil : i < l.length := by rw [← HN.out]; exact hlt
      have HIL := Lib.hid hil
      rw [← midQ_start hil] at ho
      have HME := Lib.hid (midQ_end hil)
      have hyes := fun t h => atQ_yes (x := gPr l i) (l := srtQ (l.take i)) (k := t) h
      have hno := fun t h => atQ_no (x := gPr l i) (l := srtQ (l.take i)) (k := t) h
      generalize hAT : atQ (gPr l i) (srtQ (l.take i)) i = at' at *
      have HAT := Lib.hid hAT
      have HYES := Lib.hid hyes
      have HNO := Lib.hid hno
      clear hAT hyes hno hil
      go_wp2_with (fail)
      go_loopw [9] (fun u9 wr => ∃ j : Nat, j ≤ i ∧ u9 = .int .i64 j ∧ Hid (at' = atQ (gPr l i) (srtQ (l.take i)) j) ∧ wr.ownsRow base 46 2 (.slice (some ⟨g, 0, none⟩) n c) n (rC (midQ l i j)) ∧ w.grownBy wr (some g)) (fun u9 _ => (intOf u9).toNat)
      case atStart => exact ⟨i, Nat.le_refl _, rfl, hidP HAT.out.symm, ho, hg⟩
      case round =>
        clear ho hg
        obtain ⟨ws, rfl⟩ : ∃ ws : World, ws = wr := ⟨_, rfl⟩
        obtain ⟨j, hj, rfl, HT, ho, hg⟩ := hrel
        by_cases hj0 : 0 < j
        · have hil := HIL.out
          obtain ⟨m1, m2, m3⟩ := midQ_step hil hj0 hj
          have hml := midQ_len hil hj
          have x1 := rC_at (l := midQ l i j) (k := j) (by omega)
          have y1 := rC_at (l := midQ l i j) (k := j - 1) (by omega)
          rw [m1] at x1
          rw [m2] at y1
          have xm := HBD.out (gPr l i) (by simp [gPr, List.getElem?_eq_getElem hil])
          have ym := HBD.out (gPr (srtQ (l.take i)) (j - 1)) (srtQ_mem l i (by omega) _ (by
            have e := srtQ_tlen (l := l) (i := i) (by omega)
            simp [gPr, List.getElem?_eq_getElem (show j - 1 < (srtQ (l.take i)).length by omega)]))
          have hcb := cmp_befQ (gPr l i) (gPr (srtQ (l.take i)) (j - 1))
          have hyes := HYES.out (j - 1)
          have hno := HNO.out (j - 1)
          rw [Nat.sub_add_cancel hj0] at hyes hno
          have s1 := rC_stored ho j (gPr (srtQ (l.take i)) (j - 1))
          have s2 := rC_stored s1.1 (j - 1) (gPr l i)
          rw [← m3] at s2
          have s3 := grown_trans hg (grown_trans s1.2 s2.2)
          have z := fun q => ho.frozenAt q
          generalize gPr (srtQ (l.take i)) (j - 1) = y at *
          generalize gPr l i = x at *
          obtain ⟨xa, xb⟩ := x
          obtain ⟨ya, yb⟩ := y
          have e1 := own_hsrc ho ⟨g, 0, none⟩ rfl (j * 2) _ x1.1
          have e2 := own_hsrc ho ⟨g, 0, none⟩ rfl (j * 2 + 1) _ x1.2
          have e3 := own_hsrc ho ⟨g, 0, none⟩ rfl ((j - 1) * 2) _ y1.1
          have e4 := own_hsrc ho ⟨g, 0, none⟩ rfl ((j - 1) * 2 + 1) _ y1.2
          rw [Go.WideShapes.add_plain, Nat.zero_add] at e1 e2 e3 e4
          have hc1 := fun (W : World) => i_ratCmp xa xb ya yb W xm.1 xm.2 ym.1 ym.2
          have hs1' : IntKind.i64.wrap ((j : Int) - 1) = (j : Int) - 1 := IntWalk.i64_in _ (by omega)
          have hs2' : ((j : Int) - 1).toNat = j - 1 := by omega
          have hs3' : 1 ≤ (j : Int) := by omega
          have hs4' : 0 ≤ (j : Int) - 1 := by omega
          have hs5' : (j : Int) - 1 < n := by omega
          have hs6' : (j : Int) < n := by omega
          have r1 := fun d os => cell_regrown e1 d os
          have r2 := fun d os => cell_regrown e2 d os
          have r3 := fun d os => cell_regrown e3 d os
          have r4 := fun d os => cell_regrown e4 d os
          have HX := Lib.hid x1
          have HY := Lib.hid y1
          have HM3 := Lib.hid m3
          clear x1 y1 xm ym m1 m2 m3 hml s1 s2 s3 e1 e2 e3 e4
          cases hbe : befQ (xa, xb) (ya, yb)
          · have hcv : ¬ cmpN (xa * yb) (ya * xb) < 0 := by
              have h := hcb
              rw [hbe] at h
              simp only [] at h
              rw [h]
              decide
            have HAT2 := Lib.hid (hno hbe)
            clear hno hyes hbe hcb
            generalize cmpN (xa * yb) (ya * xb) = cv at *
            go_wp2_with (fail)
            refine wp_region_quiet_below (by kernel_rfl) (by kernel_rfl) ?_
            repeat (first | go_big_quiet_step ((go_at_call 71; go_loud (exact Calls.regrown_of (hc1 _)))) | quiet_step ((go_at_call 71; go_loud (exact Calls.regrown_of (hc1 _)))))
            refine wpQuiet_nil ?_
            intro _ hw'
            obtain ⟨⟨dq, osq⟩, hw''⟩ := hw'
            subst hw''
            have hb5 := below_regrown ws dq osq
            generalize Go.Sort.grow (redrawn ws dq) osq = w5 at *
            go_wp2_with (fail)
            have hat0 : j = at' := by rw [HT.out, HAT2.out]
            subst hat0
            rw [HME.out] at ho
            refine ⟨⟨i + 1, by omega, by omega, by go_num, own_below ho hb5, grown_trans hg (grown_any hb5)⟩, ?_⟩
            simp [intOf]; omega
          · have hcv : cmpN (xa * yb) (ya * xb) < 0 := by
              have h : (cmpN (xa * yb) (ya * xb) < 0) = (befQ (xa, xb) (ya, yb) = true) := hcb
              rw [h]
              exact hbe
            have HT2 := Lib.hid (HT.out.trans (hyes hbe))
            clear hno hyes hbe hcb
            generalize cmpN (xa * yb) (ya * xb) = cv at *
            go_wp2_with (fail)
            refine wp_region_quiet_below (by kernel_rfl) (by kernel_rfl) ?_
            repeat (first | go_big_quiet_step ((go_at_call 71; go_loud (exact Calls.regrown_of (hc1 _)))) | quiet_step ((go_at_call 71; go_loud (exact Calls.regrown_of (hc1 _)))))
            refine wpQuiet_nil ?_
            intro _ hw'
            obtain ⟨⟨dq, osq⟩, hw''⟩ := hw'
            subst hw''
            have hb5 := below_regrown ws dq osq
            generalize Go.Sort.grow (redrawn ws dq) osq = w5 at *
            have ho5 := own_below ho hb5
            have e1 := own_hsrc ho5 ⟨g, 0, none⟩ rfl (j * 2) _ HX.out.1
            have e2 := own_hsrc ho5 ⟨g, 0, none⟩ rfl (j * 2 + 1) _ HX.out.2
            have e3 := own_hsrc ho5 ⟨g, 0, none⟩ rfl ((j - 1) * 2) _ HY.out.1
            have e4 := own_hsrc ho5 ⟨g, 0, none⟩ rfl ((j - 1) * 2 + 1) _ HY.out.2
            rw [Go.WideShapes.add_plain, Nat.zero_add] at e1 e2 e3 e4
            have z1 := ho5.frozenAt (j * 2)
            have z2 := ho5.frozenAt (j * 2 + 1)
            have z3 := ho5.frozenAt ((j - 1) * 2)
            have z4 := ho5.frozenAt ((j - 1) * 2 + 1)
            have s1 := rC_stored (ho5 : (w5.drew).ownsRow base 46 2 (.slice (some ⟨g, 0, none⟩) n c) n (rC (midQ l i j))) j (ya, yb)
            have s2 := rC_stored s1.1 (j - 1) (xa, xb)
            rw [← HM3.out] at s2
            have hgg := grown_trans hg (grown_any (row := some g) hb5)
            have HSW := Lib.hid (And.intro s2.1 (grown_trans s1.2 s2.2))
            clear ho ho5 r1 r2 r3 r4 s1 s2 z
            go_wp2_with (fail)
            go_region_law (fail)
            all_goals
              go_wp2_with (fail)
              obtain ⟨w1', w3'⟩ := HSW.out
              have hg9 := grown_trans hgg w3'
              go_roundw
              case rel => exact ⟨j - 1, by omega, by go_num, HT2.out, w1', by first | exact grown_drewN hg9 1 | exact hg9⟩
              case measure => simp [intOf]; omega
        · have hng : ¬ (0 : Int) < (j : Int) := by omega
          have hat0 : j = at' := by have h := HT.out; have e : j = 0 := (by omega); rw [e] at h; rw [e, h]; rfl
          subst hat0
          rw [HME.out] at ho
          go_wp2_with (go_quiet (fail))
          go_roundw
          case rel => exact ⟨i + 1, by omega, by omega, by go_num, own_dr ho _, grown_drewN hg _⟩
          case measure => simp [intOf]; omega
    · obtain rfl : i = n := by omega
      rw [HALL.out] at ho
      go_wp2_with (fail)
      go_end0
      exact ⟨rfl, ho, hg⟩
end Go.Proofs.Ytglijcdnnaekkaa

/- Walks: spec.SupportOf. -/
import Derived.Test.YthjoegoeaiemdaaA59
namespace Go.Proofs.Ythjoegoeaiemdaa
set_option linter.unusedVariables false
set_option linter.unusedSimpArgs false
open Go.RowKit

theorem rstI_bd {p : Nat} {n : Int} (hp : 2 ≤ p) (h : n ≠ 0) : rstI p n ≠ 0 ∧ (rstI p n).natAbs = rst p n.natAbs ∧ rst p n.natAbs ≤ n.natAbs := by
  have h1 := val_bd (p := p) (n := n.natAbs) hp (by omega)
  unfold rstI
  split <;> omega
theorem val_ne {p n : Nat} (hp : 2 ≤ p) (hn : 0 < n) : 0 < val p n ↔ n % p = 0 := by
  constructor
  · intro h
    by_cases h1 : n % p = 0
    · exact h1
    · rw [(val_no h1).1] at h; omega
  · intro h
    rw [(val_yes hp hn h).1]; omega
set_option maxRecDepth 10000 in
set_option maxHeartbeats 4000000 in
theorem s_SupportOf (a b : Int) (w : World) : Calls Try.prog 49 #[.agg #[.int .i64 a, .int .i64 b]] w (RS (suL a b) (suC a b) w) := by
  by_cases h0 : rcode a b = 0
  · obtain ⟨h1, ha0⟩ := rcode_0 h0
    obtain ⟨b1, b2, b3, b4, _⟩ := ratB_bd h1
    have HC : Hid (suC a b = if stp 98 a.natAbs = 1 ∧ stp 98 b.natAbs = 1 then 0 else 3) := by unfold Hid suC; rw [if_pos h0]
    have H0 := Lib.hid h0
    have HA := Lib.hid ha0
    have hy : (b.natAbs : Int) = b := by omega
    have hx2 : 0 < b.natAbs ∧ b.natAbs ≤ 1000000000000 := by omega
    have HX2 := Lib.hid hx2
    obtain ⟨i0, hi, hz0, hz1, hz2⟩ := info_parts infoI64
    clear h0 ha0 h1 hx2
    go_enter Try.func49, Try.ntmps49
    go_wp2_with (fail)
    have B1 := BK.new w 61 #[.int .i64 a, .int .i64 b]
    refine (s_l31Code _ _ _).mono ?_
    rw [H0.out]
    rintro e w1 ⟨rfl, hb1⟩
    have q1 := bel_call ((Below.refl w.heap.size w).alloc (Nat.le_refl _) _) hb1
    obtain ⟨c1, c2, _, _⟩ := (B1.of_below hb1).two
    have hsz1 := q1.size
    clear B1 hb1
    go_wp2_with (fail)
    have c3 := ((Below.refl w1.heap.size w1).alloc (Nat.le_refl _) (.cells #[] 2)).cell (p := ⟨w.heap.size, 0, none⟩) (block_lt_of_cell c1)
    have c4 := ((Below.refl w1.heap.size w1).alloc (Nat.le_refl _) (.cells #[] 2)).cell (p := ⟨w.heap.size, 1, none⟩) (block_lt_of_cell c2)
    rw [c1] at c3
    rw [c2] at c4
    go_quiet (fail)
    go_wp2_with (fail)
    rw [← hy]
    have hs0 : ((w1.alloc (.cells #[] 2)).drewN nq).ownsRow w.heap.size 2 1 (.slice (some ⟨w1.heap.size, 0, none⟩) 0 0) 0 (ints (sup a.natAbs b.natAbs 2)) := by
      rw [sup_2]; exact own_drewN (World.ownsRow_lit w1 #[] 0 hsz1 (by simp [maxLen]) rfl) nq
    have hb0 : Below w.heap.size w ((w1.alloc (.cells #[] 2)).drewN nq) := below_drewN (q1.alloc hsz1 _) nq
    have HYY := Lib.hid hy
    clear hy c1 c2
    go_loopw [5, 6, 7, 8] (fun u5 u6 u7 u8 wr => ∃ (k L y : Nat) (n : Int), 2 ≤ k ∧ k ≤ 98 ∧ L ≤ k ∧ -1000000000000 ≤ n ∧ n ≤ 1000000000000 ∧ 0 < y ∧ y ≤ 1000000000000 ∧ u8 = .int .i64 k ∧ u6 = .int .i64 n ∧ u7 = .int .i64 y ∧ Hid (n ≠ 0 ∧ n.natAbs = stp k a.natAbs ∧ y = stp k b.natAbs ∧ L = (sup a.natAbs b.natAbs k).length) ∧ wr.ownsRow w.heap.size 2 1 u5 L (ints (sup a.natAbs b.natAbs k)) ∧ Below w.heap.size w wr) (fun _ _ _ u8 _ => 98 - (intOf u8).toNat)
    case atStart => exact ⟨2, 0, b.natAbs, a, by omega, by omega, by omega, by omega, by omega, HX2.out.1, HX2.out.2, rfl, rfl, rfl, ⟨HA.out, by rw [stp_2], by rw [stp_2], by rw [sup_2]; rfl⟩, hs0, hb0⟩
    case round =>
      clear hs0 hb0
      obtain ⟨k, L, y, n, hk2, hk, hL, hn1, hn2, hy1, hy2, rfl, rfl, rfl, HS, hown, hb⟩ := hrel
      obtain ⟨A1, cc, rfl, _⟩ := own_slice' hown
      obtain ⟨wq, rfl⟩ : ∃ wq : World, wq = wr := ⟨_, rfl⟩
      by_cases hlt : k ≤ 97
      · cases hp : primeB (k : Int)
        · have HS1 : Hid (stp (k + 1) a.natAbs = stp k a.natAbs ∧ stp (k + 1) b.natAbs = stp k b.natAbs ∧ sup a.natAbs b.natAbs (k + 1) = sup a.natAbs b.natAbs k) := by
            unfold Hid; rw [stp_no hp, stp_no hp, sup_no (by rw [hp]; simp)]; exact ⟨rfl, rfl, rfl⟩
          go_wp2_with (first | (go_at_call 103; refine (s_l01Prime _ _ (by omega) (by omega)).mono ?_; rintro e w2 ⟨rfl, nq2, rfl⟩; rw [hp]))
          go_roundw
          case rel => exact ⟨k + 1, L, y, n, by omega, by omega, by omega, hn1, hn2, hy1, hy2, by go_num, rfl, rfl, ⟨HS.out.1, by rw [HS1.out.1]; exact HS.out.2.1, by rw [HS1.out.2.1]; exact HS.out.2.2.1, by rw [HS1.out.2.2]; exact HS.out.2.2.2⟩, by rw [HS1.out.2.2]; exact own_drewN hown nq2, below_drewN hb _⟩
          case measure => simp [intOf]; omega
        · have HA1 := Lib.hid (rstI_bd (p := k) hk2 HS.out.1)
          have HB1 := Lib.hid (val_bd (p := k) (n := y) hk2 hy1)
          have hv1 := val_le40 (p := k) (n := n.natAbs) hk2 (by have := HS.out.1; omega) (by omega)
          have hv2 := val_le40 (p := k) (n := y) hk2 hy1 hy2
          have HV1 := Lib.hid (val_ne (p := k) (n := n.natAbs) hk2 (by have := HS.out.1; omega))
          have HV2 := Lib.hid (val_ne (p := k) (n := y) hk2 hy1)
          have hst : Hid (stp (k + 1) a.natAbs = rst k n.natAbs ∧ stp (k + 1) b.natAbs = rst k y) := by
            unfold Hid; rw [stp_yes hp, stp_yes hp, ← HS.out.2.1, ← HS.out.2.2.1]; exact ⟨rfl, rfl⟩
          have hnb : -1000000000000 ≤ rstI k n ∧ rstI k n ≤ 1000000000000 := by have := HA1.out; omega
          have hyb : 0 < rst k y ∧ rst k y ≤ 1000000000000 := by have := HB1.out; omega
          generalize hV1 : val k n.natAbs = V1 at *
          generalize hV2 : val k y = V2 at *
          have HVV1 := Lib.hid hV1
          have HVV2 := Lib.hid hV2
          clear hV1 hV2
          by_cases ht : 0 < V1 ∨ 0 < V2
          · have HSU : Hid (sup a.natAbs b.natAbs (k + 1) = sup a.natAbs b.natAbs k ++ [(k : Int)]) := by
              unfold Hid
              refine sup_yes hp ?_
              rw [← HS.out.2.1, ← HS.out.2.2.1]
              exact ht.imp HV1.out.1 HV2.out.1
            by_cases ht1 : 0 < V1
            · clear ht
              go_wp2_with (go_at_call 103; refine (s_l01Prime _ _ (by omega) (by omega)).mono ?_; rintro e w2 ⟨rfl, hq2⟩; rw [hp])
              refine (s_l16PartsN n k _ (by omega) (by omega) HS.out.1 hk2 hlt).mono ?_
              rw [HVV1.out]
              rintro e w3 ⟨rfl, hq3⟩
              go_wp2_with (fail)
              refine (s_l16PartsP y k _ hy2 hy1 hk2 hlt).mono ?_
              rw [HVV2.out]
              rintro e w4 ⟨rfl, hq4⟩
              have how : w4.ownsRow w.heap.size 2 1 (.slice A1 L cc) L (ints (sup a.natAbs b.natAbs k)) := by
                obtain ⟨n2, rfl⟩ := hq2; obtain ⟨n3, rfl⟩ := hq3; obtain ⟨n4, rfl⟩ := hq4; exact hown
              have hbw : Below w.heap.size w w4 := by
                obtain ⟨n2, rfl⟩ := hq2; obtain ⟨n3, rfl⟩ := hq3; obtain ⟨n4, rfl⟩ := hq4; exact below_drewN (below_drewN (below_drewN hb _) _) _
              clear hq2 hq3 hq4 hown hb
              have hszw := hbw.size
              go_wp2_with (at_builtin; go_loud (refine wpList_append_src rfl (.tmp 48) (.tmp 50) 24 rfl w.heap.size 2 i0 (.int .i64 0) 1 8 Try.underlying24 hi hz0 hz1 hz2 rfl (by omega) (.slice A1 L cc) L (ints (sup a.natAbs b.natAbs k)) rfl (World.ownsRow.alloc how _) (some ⟨w4.heap.size, 0, none⟩) 1 1 [.int .i64 (k : Int)] rfl rfl (one_src _ _ _) (by intro h; cases h) (by intro u hu; simp at hu; subst hu; rfl) (by simp only [maxLen]; omega) (by omega) (by simp; omega) ?_); intro v2 w5 hown2 hg2 hat2; clear hat2)
              have hb5 : Below w.heap.size w w5 := (hbw.alloc hszw _).grown hg2 (by simp; omega) (fun g hg => (how.lt g hg).1)
              clear hg2
              go_roundw
              case rel => exact ⟨k + 1, L + 1, rst k y, rstI k n, by omega, by omega, by omega, hnb.1, hnb.2, hyb.1, hyb.2, by go_num, rfl, rfl, ⟨HA1.out.1, by rw [HA1.out.2.1, hst.out.1], by rw [hst.out.2], by rw [HSU.out, List.length_append, ← HS.out.2.2.2]; rfl⟩, by rw [HSU.out, ints_snoc]; exact hown2, hb5⟩
              case measure => simp [intOf]; omega
            · have ht2 : 0 < V2 := by omega
              clear ht
              go_wp2_with (go_at_call 103; refine (s_l01Prime _ _ (by omega) (by omega)).mono ?_; rintro e w2 ⟨rfl, hq2⟩; rw [hp])
              refine (s_l16PartsN n k _ (by omega) (by omega) HS.out.1 hk2 hlt).mono ?_
              rw [HVV1.out]
              rintro e w3 ⟨rfl, hq3⟩
              go_wp2_with (fail)
              refine (s_l16PartsP y k _ hy2 hy1 hk2 hlt).mono ?_
              rw [HVV2.out]
              rintro e w4 ⟨rfl, hq4⟩
              have how : w4.ownsRow w.heap.size 2 1 (.slice A1 L cc) L (ints (sup a.natAbs b.natAbs k)) := by
                obtain ⟨n2, rfl⟩ := hq2; obtain ⟨n3, rfl⟩ := hq3; obtain ⟨n4, rfl⟩ := hq4; exact hown
              have hbw : Below w.heap.size w w4 := by
                obtain ⟨n2, rfl⟩ := hq2; obtain ⟨n3, rfl⟩ := hq3; obtain ⟨n4, rfl⟩ := hq4; exact below_drewN (below_drewN (below_drewN hb _) _) _
              clear hq2 hq3 hq4 hown hb
              have hszw := hbw.size
              go_wp2_with (at_builtin; go_loud (refine wpList_append_src rfl (.tmp 48) (.tmp 50) 24 rfl w.heap.size 2 i0 (.int .i64 0) 1 8 Try.underlying24 hi hz0 hz1 hz2 rfl (by omega) (.slice A1 L cc) L (ints (sup a.natAbs b.natAbs k)) rfl (World.ownsRow.alloc how _) (some ⟨w4.heap.size, 0, none⟩) 1 1 [.int .i64 (k : Int)] rfl rfl (one_src _ _ _) (by intro h; cases h) (by intro u hu; simp at hu; subst hu; rfl) (by simp only [maxLen]; omega) (by omega) (by simp; omega) ?_); intro v2 w5 hown2 hg2 hat2; clear hat2)
              have hb5 : Below w.heap.size w w5 := (hbw.alloc hszw _).grown hg2 (by simp; omega) (fun g hg => (how.lt g hg).1)
              clear hg2
              go_roundw
              case rel => exact ⟨k + 1, L + 1, rst k y, rstI k n, by omega, by omega, by omega, hnb.1, hnb.2, hyb.1, hyb.2, by go_num, rfl, rfl, ⟨HA1.out.1, by rw [HA1.out.2.1, hst.out.1], by rw [hst.out.2], by rw [HSU.out, List.length_append, ← HS.out.2.2.2]; rfl⟩, by rw [HSU.out, ints_snoc]; exact hown2, hb5⟩
              case measure => simp [intOf]; omega
          · have ht1 : ¬ 0 < V1 := fun h => ht (.inl h)
            have ht2 : ¬ 0 < V2 := fun h => ht (.inr h)
            have HSU : Hid (sup a.natAbs b.natAbs (k + 1) = sup a.natAbs b.natAbs k) := by
              unfold Hid
              refine sup_no ?_
              rw [← HS.out.2.1, ← HS.out.2.2.1]
              rintro ⟨_, h | h⟩
              · exact ht1 (HV1.out.2 h)
              · exact ht2 (HV2.out.2 h)
            clear ht
            go_wp2_with (go_at_call 103; refine (s_l01Prime _ _ (by omega) (by omega)).mono ?_; rintro e w2 ⟨rfl, hq2⟩; rw [hp])
            refine (s_l16PartsN n k _ (by omega) (by omega) HS.out.1 hk2 hlt).mono ?_
            rw [HVV1.out]
            rintro e w3 ⟨rfl, hq3⟩
            go_wp2_with (fail)
            refine (s_l16PartsP y k _ hy2 hy1 hk2 hlt).mono ?_
            rw [HVV2.out]
            rintro e w4 ⟨rfl, hq4⟩
            have how : w4.ownsRow w.heap.size 2 1 (.slice A1 L cc) L (ints (sup a.natAbs b.natAbs k)) := by
              obtain ⟨n2, rfl⟩ := hq2; obtain ⟨n3, rfl⟩ := hq3; obtain ⟨n4, rfl⟩ := hq4; exact hown
            have hbw : Below w.heap.size w w4 := by
              obtain ⟨n2, rfl⟩ := hq2; obtain ⟨n3, rfl⟩ := hq3; obtain ⟨n4, rfl⟩ := hq4; exact below_drewN (below_drewN (below_drewN hb _) _) _
            clear hq2 hq3 hq4 hown hb
            have hszw := hbw.size
            go_wp2_with (fail)
            go_roundw
            case rel => exact ⟨k + 1, L, rst k y, rstI k n, by omega, by omega, by omega, hnb.1, hnb.2, hyb.1, hyb.2, by go_num, rfl, rfl, ⟨HA1.out.1, by rw [HA1.out.2.1, hst.out.1], by rw [hst.out.2], by rw [HSU.out]; exact HS.out.2.2.2⟩, by rw [HSU.out]; exact how, hbw⟩
            case measure => simp [intOf]; omega
      · obtain rfl : k = 98 := by omega
        have hab : abs64 n = (n.natAbs : Int) := abs64_eq (by omega) (by omega)
        have HAB := Lib.hid hab
        have hne1 : ((n.natAbs : Int) != 1) = !decide (stp 98 a.natAbs = 1) := by
          rw [← HS.out.2.1, Bool.eq_iff_iff, bne_iff_ne, Bool.not_eq_true', decide_eq_false_iff_not]; omega
        have hne2 : ((y : Int) != 1) = !decide (stp 98 b.natAbs = 1) := by
          rw [← HS.out.2.2.1, Bool.eq_iff_iff, bne_iff_ne, Bool.not_eq_true', decide_eq_false_iff_not]; omega
        clear hab
        by_cases d1 : stp 98 a.natAbs = 1
        · by_cases d2 : stp 98 b.natAbs = 1
          · have HCC : Hid (suC a b = 0) := by unfold Hid; rw [HC.out, if_pos ⟨d1, d2⟩]
            have HLL : Hid (suL a b = sup a.natAbs b.natAbs 98) := by
              unfold Hid suL; rw [HCC.out]; rfl
            rw [decide_eq_true d1] at hne1
            rw [decide_eq_true d2] at hne2
            simp only [Bool.not_true] at hne1 hne2
            clear d1 d2
            go_wp2_with (go_at_call 102; refine (s_l01Abs _ _).mono ?_; rw [HAB.out]; rintro e w2 ⟨rfl, nq2, rfl⟩)
            go_ret2
            rw [HCC.out]
            unfold RS
            rw [HLL.out, ← HS.out.2.2.2]
            exact ⟨A1, cc, rfl, own_drewN hown nq2, below_drewN hb _⟩
          · have HCC : Hid (suC a b = 3) := by unfold Hid; rw [HC.out, if_neg (fun h => d2 h.2)]
            have HLL : Hid (suL a b = []) := by unfold Hid suL; rw [HCC.out]; rfl
            rw [decide_eq_true d1] at hne1
            rw [decide_eq_false d2] at hne2
            simp only [Bool.not_true, Bool.not_false] at hne1 hne2
            clear d1 d2
            go_wp2_with (go_at_call 102; refine (s_l01Abs _ _).mono ?_; rw [HAB.out]; rintro e w2 ⟨rfl, nq2, rfl⟩)
            go_ret2
            rw [HCC.out, HLL.out]
            exact RS.nil (below_drewN hb _)
        · have HCC : Hid (suC a b = 3) := by unfold Hid; rw [HC.out, if_neg (fun h => d1 h.1)]
          have HLL : Hid (suL a b = []) := by unfold Hid suL; rw [HCC.out]; rfl
          rw [decide_eq_false d1] at hne1
          simp only [Bool.not_false] at hne1
          clear d1 hne2
          go_wp2_with (go_at_call 102; refine (s_l01Abs _ _).mono ?_; rw [HAB.out]; rintro e w2 ⟨rfl, nq2, rfl⟩)
          go_ret2
          rw [HCC.out, HLL.out]
          exact RS.nil (below_drewN hb _)
  · have HC : Hid (suC a b = rcode a b) := by unfold Hid suC; rw [if_neg h0]
    have HL : Hid (suL a b = []) := by unfold Hid suL; rw [HC.out, if_neg h0]
    have hx : (rcode a b != 0) = true := by simpa using h0
    clear h0
    go_enter Try.func49, Try.ntmps49
    go_wp2_with (fail)
    refine (s_l31Code _ _ _).mono ?_
    rintro e w1 ⟨rfl, hb1⟩
    have b1 := bel_call ((Below.refl w.heap.size w).alloc (Nat.le_refl _) _) hb1
    go_wp2_with (fail)
    go_ret2
    rw [HC.out, HL.out]
    exact RS.nil b1
end Go.Proofs.Ythjoegoeaiemdaa

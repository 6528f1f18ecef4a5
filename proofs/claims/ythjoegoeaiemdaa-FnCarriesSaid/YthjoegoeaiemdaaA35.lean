/- Walks: StrassmannCount's two sides and its law. -/
import Derived.Test.YthjoegoeaiemdaaA34
namespace Go.Proofs.Ythjoegoeaiemdaa
set_option linter.unusedVariables false
set_option linter.unusedSimpArgs false
open Go.RowKit

theorem IP.below {w w' : World} {B : Nat} {A : Option Addr} {l : List (Int × Int)} (h : IP w B A l) (hb : Below B w w') : IP w' B A l := by
  intro h0
  obtain ⟨b, off, h1, h2, h3⟩ := h h0
  exact ⟨b, off, h1, h2, fun k hk => ⟨(hb.cell (p := ⟨b, off + k * 2, none⟩) h2).trans (h3 k hk).1, (hb.cell (p := ⟨b, off + k * 2 + 1, none⟩) h2).trans (h3 k hk).2⟩⟩
set_option maxHeartbeats 2000000 in
theorem s_StrassmannCount (p : Int) (A : Option Addr) (n c : Nat) (xs : List Int) (w : World) (hp0 : -9223372036854775808 ≤ p) (hn : n = xs.length) (hl : n ≤ 1048576) (hs : IS w w.heap.size A xs) :
    Calls Try.prog 44 #[.int .i64 p, .slice A n c] w (M2 (scV p xs) (scC p xs) w) := by
  by_cases h0 : scC p xs = 0
  · obtain ⟨h1, h2, h3⟩ := scC_0 h0
    obtain ⟨h4, h5, h6⟩ := polyB_bd h2
    obtain ⟨p1, p2⟩ := smallB_t h1
    have h7 : 0 < (scL p xs).length := ptl_last h3 (by omega)
    have h8 : (scL p xs).length ≤ 9 := Nat.le_trans (ptl_len _ _ _) h4
    have HV : Hid (scV p xs = (bst (scL p xs) (scL p xs).length).1) := by unfold Hid scV; rw [if_pos h0]
    have HPT : Hid (ptl p.toNat xs n = scL p xs) := by unfold Hid scL; rw [hn]
    generalize scL p xs = l at *
    generalize hL : l.length = L at *
    have HL := Lib.hid hL
    have HC := Lib.hid h0
    have HN := Lib.hid hn
    have H5 := Lib.hid h5
    have h9 : n ≤ 9 := by omega
    clear hL h0 hn h1 h2 h6 h5
    go_enter Try.func44, Try.ntmps44
    go_wp2_with (fail)
    refine (s_l13Code _ _ _ _ xs _ _ hp0 HN.out hl hs).mono ?_
    rw [HC.out]
    rintro e w' ⟨rfl, nq, rfl⟩
    go_wp2_with (fail)
    refine (s_l13Points _ _ _ _ xs _ HN.out h9 (IS.drewN hs _) H5.out p1 p2).mono ?_
    rw [HPT.out]
    rintro e w1 ⟨A1, c1, rfl, hop, hb1⟩
    rw [HL.out] at hop ⊢
    have hip := ip_of_own hop HL.out.symm
    clear hop
    have b1 := bel_call (below_drewN (Below.refl w.heap.size w) nq) hb1
    obtain ⟨b, off, rfl, hbl, e1, e2⟩ := hip.at (k := 0) (by rw [HL.out]; exact h7)
    simp only [Nat.zero_mul, Nat.add_zero] at e1 e2
    clear hb1
    go_wp2_with (fail)
    go_loopw [9] (fun u wr => ∃ k : Nat, k ≤ L ∧ u = .int .i64 k ∧ BK wr w1.heap.size 101 #[.int .i64 (bst l k).1, .int .i64 (bst l k).2] ∧ Below w1.heap.size w1 wr) (fun u _ => L - (intOf u).toNat)
    case atStart =>
      refine ⟨0, Nat.zero_le _, rfl, ?_, ?_⟩
      · exact BK.new w1 _ _
      · repeat (first | exact Below.refl _ _ | refine below_drewN ?_ _ | refine Below.setCell ?_ (by simp) _ | refine Below.alloc ?_ (by simp) _)
    case round =>
      obtain ⟨k, hk, rfl, hB, hbw⟩ := hrel
      clear e1 e2
      obtain ⟨c0, c1, f0, f1⟩ := hB.two
      by_cases hlt : k < L
      · obtain ⟨b', off', hbo, hbl', e1, e2⟩ := (hip.below hbw).at (k := k) (by rw [HL.out]; exact hlt)
        injection hbo with hbo
        injection hbo with hb1 hb2
        subst hb1 hb2
        have HIP := Lib.hid hip
        clear hip
        by_cases hle : (gp l k).2 ≤ (bst l k).2
        · have HB : Hid (bst l (k + 1) = gp l k) := bst_yes hle
          go_wp2_with (go_quiet (fail))
          go_roundw
          case rel =>
            refine ⟨k + 1, by omega, by go_num, ?_, ?_⟩
            · rw [HB.out]
              first | simpa using (hB.set 0 (.int .i64 (gp l k).1)).set 1 (.int .i64 (gp l k).2) | simpa using ((hB.drewN _).set 0 (.int .i64 (gp l k).1)).set 1 (.int .i64 (gp l k).2)
            · repeat (first | exact hbw | refine below_drewN ?_ _ | refine Below.setCell ?_ (by simp) _)
          case measure => simp [intOf]; omega
        · have HB : Hid (bst l (k + 1) = bst l k) := bst_no hle
          go_wp2_with (go_quiet (fail))
          go_roundw
          case rel =>
            refine ⟨k + 1, by omega, by go_num, ?_, ?_⟩
            · rw [HB.out]
              exact hB
            · repeat (first | exact hbw | refine below_drewN ?_ _)
          case measure => simp [intOf]; omega
      · obtain rfl : k = L := by omega
        go_wp2_with (fail)
        go_ret2
        refine ⟨ret_ii HV.out.symm HC.out.symm, ?_⟩
        exact bel_call b1 hbw
  · have hx : (scC p xs != 0) = true := by simpa using h0
    have HV : Hid (scV p xs = 0) := by unfold Hid scV; rw [if_neg h0]
    have HN := Lib.hid hn
    clear h0 hn
    go_enter Try.func44, Try.ntmps44
    go_wp2_with (fail)
    refine (s_l13Code _ _ _ _ xs _ _ hp0 HN.out hl hs).mono ?_
    rintro e w' ⟨rfl, nq, rfl⟩
    go_wp2_with (fail)
    go_ret2
    exact ⟨ret_ii HV.out.symm rfl, below_drewN (Below.refl _ _) _⟩
set_option maxHeartbeats 2000000 in
theorem i_StrassmannCount (p : Int) (A : Option Addr) (n c : Nat) (xs : List Int) (w : World) (hp0 : -9223372036854775808 ≤ p) (hn : n = xs.length) (hl : n ≤ 1048576) (hs : IS w w.heap.size A xs) :
    Calls Try.prog 43 #[.int .i64 p, .slice A n c] w (M2 (scV p xs) (scC p xs) w) := by
  by_cases h0 : scC p xs = 0
  · obtain ⟨h1, h2, h3⟩ := scC_0 h0
    obtain ⟨h4, h5, h6⟩ := polyB_bd h2
    obtain ⟨p1, p2⟩ := smallB_t h1
    have h7 : 0 < (scL p xs).length := ptl_last h3 (by omega)
    have h8 : (scL p xs).length ≤ 9 := Nat.le_trans (ptl_len _ _ _) h4
    have HPOS : Hid (∀ x ∈ scL p xs, 0 ≤ x.1) := ptl_pos _ _ _
    have HV : Hid (scV p xs = (bst (scL p xs) (scL p xs).length).1) := by unfold Hid scV; rw [if_pos h0]
    have HPT : Hid (ptl p.toNat xs n = scL p xs) := by unfold Hid scL; rw [hn]
    generalize scL p xs = l at *
    generalize hL : l.length = L at *
    have HL := Lib.hid hL
    have HC := Lib.hid h0
    have HN := Lib.hid hn
    have H5 := Lib.hid h5
    have h9 : n ≤ 9 := by omega
    clear hL h0 hn h1 h2 h6 h5
    go_enter Try.func43, Try.ntmps43
    go_wp2_with (fail)
    refine (i_polygonal _ _ _ _ xs _ _ hp0 HN.out hl hs).mono ?_
    rw [HC.out]
    rintro e w' ⟨rfl, nq, rfl⟩
    obtain ⟨wa, hwa⟩ : ∃ wa : World, wa = w.drewN nq := ⟨_, rfl⟩
    have hsa : IS wa wa.heap.size A xs := by rw [hwa]; exact hs
    have hba : Below w.heap.size w wa := by rw [hwa]; exact below_drewN (Below.refl w.heap.size w) nq
    rw [← hwa]
    clear hwa hs
    go_wp2_with (fail)
    have hB0 := BK.new wa 101 #[.int .i64 (-1), .int .i64 0]
    have hbb : Below wa.heap.size wa (wa.alloc (.cells #[.int .i64 (-1), .int .i64 0] 101)) := (Below.refl _ _).alloc (Nat.le_refl _) _
    refine (i_points _ _ _ _ xs _ HN.out h9 (hsa.call hbb) H5.out p1 p2).mono ?_
    rw [HPT.out]
    rintro e w1 ⟨A1, c1, rfl, hop, hb1⟩
    rw [HL.out] at hop ⊢
    have b1 := bel_call (bel_call hba hbb) hb1
    have hB1 := hB0.of_below hb1
    have hsz0 := hba.size
    clear hbb hb1 hba
    rw [World.size_alloc] at hop
    go_wp2_with (fail)
    go_loopw [21] (fun u wr => ∃ k : Nat, k ≤ L ∧ u = .int .i64 k ∧ BK wr wa.heap.size 101 #[.int .i64 (bsi l k).1, .int .i64 (bsi l k).2] ∧ Mid (wa.heap.size + 1) w1 wr ∧ Below w.heap.size w wr) (fun u _ => L - (intOf u).toNat)
    case atStart => exact ⟨0, Nat.zero_le _, rfl, hB1, Mid.refl _ _, b1⟩
    case round =>
      obtain ⟨k, hk, rfl, hB, hmid, hbw⟩ := hrel
      have hB1 := hB.lt
      have hsz1 := hB0.lt
      clear hB0
      obtain ⟨c0, c1, f0, f1⟩ := hB.two
      obtain ⟨wo, rfl⟩ : ∃ wo : World, wo = wr := ⟨_, rfl⟩
      by_cases hlt : k < L
      · obtain ⟨g1, rfl, hg1, hg2, e1, e2⟩ := own_pair hop hmid HL.out.symm (k := k) (by rw [HL.out]; exact hlt)
        have hx : (bsi l k).1 < 0 ∨ (¬ (bsi l k).1 < 0 ∧ (gp l k).2 ≤ (bsi l k).2) ∨ (¬ (bsi l k).1 < 0 ∧ ¬ (gp l k).2 ≤ (bsi l k).2) := by omega
        have hn1 : (bsi l k).1 < 0 → k = 0 := by
          intro h
          rcases Nat.eq_zero_or_pos k with h1 | h1
          · exact h1
          · have := bst_pos HPOS.out (by rw [HL.out]; exact h7) k (by rw [HL.out]; exact hk)
            unfold bsi at h; rw [if_neg (by omega)] at h; omega
        have hn2 : ¬ (bsi l k).1 < 0 → bsi l k = bst l k := by
          intro h
          rcases Nat.eq_zero_or_pos k with h1 | h1
          · subst h1; exact absurd (show (-1 : Int) < 0 by decide) h
          · unfold bsi; rw [if_neg (by omega)]
        have hres : Hid (bsi l (k + 1) = if (bsi l k).1 < 0 ∨ (gp l k).2 ≤ (bsi l k).2 then gp l k else bsi l k) := by
          unfold Hid
          rw [bsi_succ]
          by_cases h : (bsi l k).1 < 0
          · obtain rfl := hn1 h
            rw [if_pos (.inl h)]; exact bst_one l
          · rw [hn2 h]
            have h' : ¬ (bst l k).1 < 0 := by rw [← hn2 h]; exact h
            by_cases h2 : (gp l k).2 ≤ (bst l k).2
            · rw [if_pos (.inr h2)]; exact bst_yes h2
            · rw [if_neg (by rintro (h3 | h3); exact h' h3; exact h2 h3)]; exact bst_no h2
        clear hn1 hn2
        have hN1 := BK.new wo 101 #[.int .i64 (gp l k).1, .int .i64 (gp l k).2]
        rcases hx with hx | ⟨hx, hy⟩ | ⟨hx, hy⟩
        · have HB : Hid (bsi l (k + 1) = gp l k) := by unfold Hid; rw [hres.out, if_pos (.inl hx)]
          go_wp2_with (first | go_quiet (fail))
          go_roundw
          case rel =>
            refine ⟨k + 1, by omega, by go_num, ?_, ?_, ?_⟩
            · rw [HB.out]
              simpa using ((hB.set 0 (.int .i64 (gp l k).1)).set 1 (.int .i64 (gp l k).2)).alloc (.cells #[.int .i64 (gp l k).1, .int .i64 (gp l k).2] 101)
            · repeat (first | exact hmid | refine Mid.draws ?_ _ | refine Mid.set ?_ (by simp) _ | refine Mid.alloc ?_ _)
            · repeat (first | exact hbw | refine below_drewN ?_ _ | refine Below.setCell ?_ (by simp; omega) _ | refine Below.alloc ?_ (by first | omega | (simp; omega)) _)
          case measure => simp [intOf]; omega
        · have HB : Hid (bsi l (k + 1) = gp l k) := by unfold Hid; rw [hres.out, if_pos (.inr hy)]
          go_wp2_with (first | go_quiet (fail))
          go_roundw
          case rel =>
            refine ⟨k + 1, by omega, by go_num, ?_, ?_, ?_⟩
            · rw [HB.out]
              simpa using ((hB.set 0 (.int .i64 (gp l k).1)).set 1 (.int .i64 (gp l k).2)).alloc (.cells #[.int .i64 (gp l k).1, .int .i64 (gp l k).2] 101)
            · repeat (first | exact hmid | refine Mid.draws ?_ _ | refine Mid.set ?_ (by simp) _ | refine Mid.alloc ?_ _)
            · repeat (first | exact hbw | refine below_drewN ?_ _ | refine Below.setCell ?_ (by simp; omega) _ | refine Below.alloc ?_ (by first | omega | (simp; omega)) _)
          case measure => simp [intOf]; omega
        · have HB : Hid (bsi l (k + 1) = bsi l k) := by unfold Hid; rw [hres.out, if_neg (by rintro (h3 | h3); exact hx h3; exact hy h3)]
          go_wp2_with (first | go_quiet (fail))
          go_roundw
          case rel =>
            refine ⟨k + 1, by omega, by go_num, ?_, ?_, ?_⟩
            · rw [HB.out]
              exact (hB.alloc _)
            · repeat (first | exact hmid | refine Mid.draws ?_ _ | refine Mid.set ?_ (by simp) _ | refine Mid.alloc ?_ _)
            · repeat (first | exact hbw | refine below_drewN ?_ _ | refine Below.setCell ?_ (by simp; omega) _ | refine Below.alloc ?_ (by first | omega | (simp; omega)) _)
          case measure => simp [intOf]; omega
      · obtain rfl : k = L := by omega
        have HB : Hid (bsi l k = bst l k) := by unfold Hid bsi; rw [if_neg (by omega)]
        rw [HB.out] at c0
        go_wp2_with (fail)
        go_ret2
        exact ⟨ret_ii HV.out.symm HC.out.symm, hbw⟩
  · have hx : (scC p xs != 0) = true := by simpa using h0
    have HV : Hid (scV p xs = 0) := by unfold Hid scV; rw [if_neg h0]
    have HN := Lib.hid hn
    clear h0 hn
    go_enter Try.func43, Try.ntmps43
    go_wp2_with (fail)
    refine (i_polygonal _ _ _ _ xs _ _ hp0 HN.out hl hs).mono ?_
    rintro e w' ⟨rfl, nq, rfl⟩
    go_wp2_with (fail)
    go_ret2
    exact ⟨ret_ii HV.out.symm rfl, below_drewN (Below.refl _ _) _⟩
end Go.Proofs.Ythjoegoeaiemdaa

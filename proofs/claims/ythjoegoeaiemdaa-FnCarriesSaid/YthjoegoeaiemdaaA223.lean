/- The law FnCarries: for every code. -/
import Derived.Test.YthjoegoeaiemdaaA221
import Derived.Test.YthjoegoeaiemdaaA225
namespace Go.Proofs.Ythjoegoeaiemdaa
set_option linter.unusedVariables false
set_option linter.unusedSimpArgs false
open Go.RowKit

set_option maxRecDepth 20000 in
set_option maxHeartbeats 4000000 in
theorem law_Carries (A : Option Addr) (n c : Nat) (w : World) (hm : n ≤ maxLen) (hs : YB w w.heap.size A n) :
    Calls Try.prog 5 #[.slice A n c] w (M (.bool true) w) := by
  unfold maxLen at hm
  by_cases hbig : 4096 < n
  · go_enter Try.func5, Try.ntmps5
    go_wp2_with (go_at_call 7; refine (l_bigYes A n c _ hbig).mono ?_; rintro e w1 ⟨rfl, q1, rfl⟩)
    go_ret
    exact ⟨rfl, below_drewN (Below.refl _ _) _⟩
  have hn : n ≤ 4096 := by omega
  clear hm hbig
  have hd1 := fun W h => s_DrawBinomialValuation A n c W hn h
  have hd2 := fun W h => s_DrawCountCarries A n c W hn h
  have hd3 := fun W h => s_DrawFactorialValuation A n c W hn h
  have hd4 := fun W h => s_DrawStrassmannCount A n c W hn h
  go_enter Try.func5, Try.ntmps5
  go_wp2_with (go_at_call 7; refine (l_bigNo A n c _ hn).mono ?_; rintro e w1 ⟨rfl, q1, rfl⟩)
  have b1 := below_drewN (Below.refl w.heap.size w) q1
  generalize w.drewN q1 = w1 at *
  refine (hd1 _ (hs.call b1)).mono ?_
  rintro e w2 ⟨a, k, p, rfl, hp1, hp2, hb2⟩
  have b2 := bel_call b1 hb2
  have hbi := fun W => i_BinomialValuation a k p W
  have hbs := fun W => s_BinomialValuation a k p W (by omega)
  have HBV := Lib.hid (fun (h : bvC a k p = 0) => And.intro (bv_code h) (bv_cc h))
  have hown := fun W => i_CountCarries k (a - k) p W
  have HWN := Lib.hid hown
  generalize bvV a k p = bv at *
  generalize bvC a k p = bc at *
  clear hb2 b1 hd1 hown
  go_wp2_with (first
    | (go_at_call 34; refine (hbi _).mono ?_; rintro e w3 ⟨rfl, q3, rfl⟩)
    | (go_at_call 35; refine (hbs _).mono ?_; rintro e w4 ⟨rfl, q4, rfl⟩))
  have b4 := below_drewN b2 (q3 + q4)
  refine (hd2 _ (hs.call b4)).mono ?_
  rintro e w5 ⟨x, y, q, rfl, hq1, hq2, hb5⟩
  have b5 := bel_call b4 hb5
  have hci := fun W => i_CountCarries x y q W
  have hcs := fun W => s_CountCarries x y q W (by omega)
  have hcb := fun W => i_CountCarries y x q W
  rw [← (cc_sym x y q).1, ← (cc_sym x y q).2] at hcb
  generalize ccV x y q = cv at *
  generalize ccC x y q = cc at *
  clear hb5 b4 b2 hd2 hbi hbs
  go_wp2_with (first
    | (go_at_call 37; refine (hci _).mono ?_; rintro e w6 ⟨rfl, q6, rfl⟩)
    | (go_at_call 38; refine (hcs _).mono ?_; rintro e w7 ⟨rfl, q7, rfl⟩))
  have b7 := below_drewN b5 (q6 + q7)
  refine (hd3 _ (hs.call b7)).mono ?_
  rintro e w8 ⟨m, r, rfl, _, _, hr1, hr2, hb8⟩
  have b8 := bel_call b7 hb8
  have hfi := fun W => i_FactorialValuation m r W
  have hfs := fun W => s_FactorialValuation m r W (by omega)
  generalize fvV m r = fv at *
  generalize fvC m r = fc at *
  clear hb8 b7 b5 hd3 hci hcs
  go_wp2_with (first
    | (go_at_call 40; refine (hfi _).mono ?_; rintro e w9 ⟨rfl, q9, rfl⟩)
    | (go_at_call 41; refine (hfs _).mono ?_; rintro e w10 ⟨rfl, q10, rfl⟩))
  have b10 := below_drewN b8 (q9 + q10)
  refine (hd4 _ (hs.call b10)).mono ?_
  rintro e w11 ⟨u, B, L, d, xs, rfl, hu1, hu2, hL, hl, hix, hb11⟩
  have b11 := bel_call b10 hb11
  have hsi := fun W h => i_StrassmannCount u B L d xs W (by omega) hL (by omega) h
  have hss := fun W h => s_StrassmannCount u B L d xs W (by omega) hL (by omega) h
  have HSC := Lib.hid (fun (h : scC u xs = 0) => sc_bd h)
  rw [← hL] at HSC
  generalize scV u xs = sv at *
  generalize scC u xs = sc at *
  have HL := Lib.hid hL
  clear hb11 b10 b8 hd4 hfi hfs hL
  go_wp2_with (fail)
  refine (hsi _ hix).mono ?_
  rintro e w12 ⟨rfl, hb12⟩
  have b12 := bel_call b11 hb12
  have hix := hix.call hb12
  clear hb12 b11 hsi
  go_wp2_with (fail)
  refine (hss _ hix).mono ?_
  rintro e w13 ⟨rfl, hb13⟩
  have b13 := bel_call b12 hb13
  clear hb13 b12 hss hix
  have hcvv : (cv != cv) = false := by simp
  have hfz : ∀ z : Int, z = 0 ∨ ((z == 0) = false ∧ (z != 0) = true) := fun z => by
    by_cases h : z = 0
    · exact .inl h
    · exact .inr ⟨by rw [beq_eq_false_iff_ne]; exact h, by rw [bne_iff_ne]; exact h⟩
  have hsg : sc = 0 → ¬ sv < 0 ∧ ¬ (L : Int) ≤ sv := fun h => by have := HSC.out h; omega
  rcases hfz bc with rfl | ⟨hb1, hb2⟩
  · obtain ⟨⟨_, h0a, h1a, h0k, h1k⟩, hcw, hvw⟩ := HBV.out rfl
    have hwr : IntKind.i64.wrap (a - k) = a - k := IntWalk.i64_in _ (by omega)
    have hown := fun W => HWN.out W
    rw [hcw, hvw] at hown
    rcases hfz sc with rfl | ⟨hs1, hs2⟩
    · obtain ⟨hs1, hs2⟩ := hsg rfl
      rcases hfz cc with rfl | ⟨hc1, hc2⟩
      · skip
        clear hfz
        go_wp2_with (fail)
        refine (hcb _).mono ?_
        rintro e w14 ⟨rfl, q14, rfl⟩
        go_wp2_with (fail)
        refine (hown _).mono ?_
        rintro e w15 ⟨rfl, q15, rfl⟩
        go_wp2_with (fail)
        go_ret
        exact ⟨by simp, by repeat (first | exact b13 | refine below_drewN ?_ _)⟩
      · skip
        clear hfz
        go_wp2_with (fail)
        refine (hown _).mono ?_
        rintro e w15 ⟨rfl, q15, rfl⟩
        go_wp2_with (fail)
        go_ret
        exact ⟨by simp, below_drewN b13 _⟩
    · clear hsg
      rcases hfz cc with rfl | ⟨hc1, hc2⟩
      · skip
        clear hfz
        go_wp2_with (fail)
        refine (hcb _).mono ?_
        rintro e w14 ⟨rfl, q14, rfl⟩
        go_wp2_with (fail)
        refine (hown _).mono ?_
        rintro e w15 ⟨rfl, q15, rfl⟩
        go_wp2_with (fail)
        go_ret
        exact ⟨by simp, by repeat (first | exact b13 | refine below_drewN ?_ _)⟩
      · skip
        clear hfz
        go_wp2_with (fail)
        refine (hown _).mono ?_
        rintro e w15 ⟨rfl, q15, rfl⟩
        go_wp2_with (fail)
        go_ret
        exact ⟨by simp, below_drewN b13 _⟩
  · clear HBV HWN
    rcases hfz sc with rfl | ⟨hs1, hs2⟩
    · obtain ⟨hs1, hs2⟩ := hsg rfl
      rcases hfz cc with rfl | ⟨hc1, hc2⟩
      · skip
        clear hfz
        go_wp2_with (fail)
        refine (hcb _).mono ?_
        rintro e w14 ⟨rfl, q14, rfl⟩
        go_wp2_with (fail)
        go_ret
        exact ⟨rfl, below_drewN b13 _⟩
      · go_wp2_with (fail)
        go_ret
        exact ⟨rfl, b13⟩
    · clear hsg
      rcases hfz cc with rfl | ⟨hc1, hc2⟩
      · skip
        clear hfz
        go_wp2_with (fail)
        refine (hcb _).mono ?_
        rintro e w14 ⟨rfl, q14, rfl⟩
        go_wp2_with (fail)
        go_ret
        exact ⟨rfl, below_drewN b13 _⟩
      · go_wp2_with (fail)
        go_ret
        exact ⟨rfl, b13⟩
end Go.Proofs.Ythjoegoeaiemdaa

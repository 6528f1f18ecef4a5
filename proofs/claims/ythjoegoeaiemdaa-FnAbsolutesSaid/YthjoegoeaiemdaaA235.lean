/- The law FnAbsolutes: for every code. -/
import Derived.Test.YthjoegoeaiemdaaA231
import Derived.Test.YthjoegoeaiemdaaA233
import Derived.Test.YthjoegoeaiemdaaA234
import Derived.Test.YthjoegoeaiemdaaA32
import Derived.Test.YthjoegoeaiemdaaA61
namespace Go.Proofs.Ythjoegoeaiemdaa
set_option linter.unusedVariables false
set_option linter.unusedSimpArgs false
open Go.RowKit

set_option maxRecDepth 20000 in
set_option maxHeartbeats 4000000 in
theorem law_Absolutes (A : Option Addr) (n c : Nat) (w : World) (hm : n ≤ maxLen) (hs : YB w w.heap.size A n) :
    Calls Try.prog 6 #[.slice A n c] w (M (.bool true) w) := by
  unfold maxLen at hm
  by_cases hbig : 4096 < n
  · go_enter Try.func6, Try.ntmps6
    go_wp2_with (go_at_call 7; refine (l_bigYes A n c _ hbig).mono ?_; rintro e w1 ⟨rfl, q1, rfl⟩)
    go_ret
    exact ⟨rfl, below_drewN (Below.refl _ _) _⟩
  have hn : n ≤ 4096 := by omega
  clear hm hbig
  have hd1 := fun W h => s_DrawProductOfAll A n c W hn h
  have hd2 := fun W h => s_DrawAbsoluteAt A n c W hn h
  have hd3 := fun W h => s_DrawClosenessAt A n c W hn h
  go_enter Try.func6, Try.ntmps6
  go_wp2_with (go_at_call 7; refine (l_bigNo A n c _ hn).mono ?_; rintro e w1 ⟨rfl, q1, rfl⟩)
  have b1 := below_drewN (Below.refl w.heap.size w) q1
  generalize w.drewN q1 = w1 at *
  refine (hd1 _ (hs.call b1)).mono ?_
  rintro e w2 ⟨a, b, rfl, hb2⟩
  have b2 := bel_call b1 hb2
  have hX := fun W => i_ProductOfAll a b W
  have hX2 := fun W => s_ProductOfAll a b W
  have hL := fun W => i_SupportOf a b W
  have hL2 := fun W => s_SupportOf a b W
  have hN := fun W => i_SizeOfRational a b W
  have hN2 := fun W => s_SizeOfRational a b W
  have HPO := Lib.hid (fun h : rcode a b = 0 => po_one h)
  have hLl := suL_len a b
  generalize pN a b = X at *
  generalize pD a b = Y at *
  generalize rcode a b = RC at *
  generalize suL a b = SL at *
  generalize suC a b = SC at *
  generalize sizeR0 a b = Z0 at *
  generalize sizeR1 a b = Z1 at *
  generalize hLL : SL.length = L at *
  have HL := Lib.hid hLL.symm
  clear hLL hb2 b1 hd1
  have Q := BK.new w2 61 #[.int .i64 a, .int .i64 b]
  have hbx := (Below.refl w2.heap.size w2).alloc (Nat.le_refl _) (.cells #[.int .i64 a, .int .i64 b] 61)
  have b3 := bel_call b2 hbx
  clear hbx
  obtain ⟨Q0, Q1, _, _⟩ := Q.two
  go_wp2_with (fail)
  generalize w2.alloc (.cells #[.int .i64 a, .int .i64 b] 61) = w3 at *
  refine (hX _).mono ?_
  rintro e w4 ⟨rfl, hb4⟩
  have b4 := bel_call b3 hb4
  have Q := Q.of_below hb4
  clear Q0 Q1
  have BX := BK.new w4 61 #[.int .i64 X, .int .i64 Y]
  have hbx := (Below.refl w4.heap.size w4).alloc (Nat.le_refl _) (.cells #[.int .i64 X, .int .i64 Y] 61)
  have b5 := bel_call b4 hbx
  have Q := Q.of_below hbx
  clear hbx
  obtain ⟨Q0, Q1, _, _⟩ := Q.two
  go_wp2_with (fail)
  generalize w4.alloc (.cells #[.int .i64 X, .int .i64 Y] 61) = w5 at *
  refine (hX2 _).mono ?_
  rintro e w6 ⟨rfl, hb6⟩
  have b6 := bel_call b5 hb6
  have Q := Q.of_below hb6
  have BX := BX.of_below hb6
  clear Q0 Q1
  have BM := BK.new w6 61 #[.int .i64 X, .int .i64 Y]
  have hbx := (Below.refl w6.heap.size w6).alloc (Nat.le_refl _) (.cells #[.int .i64 X, .int .i64 Y] 61)
  have b7 := bel_call b6 hbx
  have Q := Q.of_below hbx
  have BX := BX.of_below hbx
  clear hbx
  obtain ⟨Q0, Q1, _, _⟩ := Q.two
  go_wp2_with (fail)
  generalize w6.alloc (.cells #[.int .i64 X, .int .i64 Y] 61) = w7 at *
  refine (hL _).mono ?_
  rintro e w8 ⟨A8, c8, rfl, o8, hb8⟩
  have b8 := bel_call b7 hb8
  have Q := Q.of_below hb8
  have BX := BX.of_below hb8
  have BM := BM.of_below hb8
  clear Q0 Q1
  rw [← HL.out] at o8 ⊢
  obtain ⟨Q0, Q1, _, _⟩ := Q.two
  go_wp2_with (fail)
  refine (hL2 _).mono ?_
  rintro e w9 ⟨A9, c9, rfl, o9, hb9⟩
  have b9 := bel_call b8 hb9
  have Q := Q.of_below hb9
  have BX := BX.of_below hb9
  have BM := BM.of_below hb9
  have o8 := own_below o8 hb9
  clear Q0 Q1
  rw [← HL.out] at o9 ⊢
  obtain ⟨Q0, Q1, _, _⟩ := Q.two
  go_wp2_with (fail)
  refine (hN _).mono ?_
  rintro e w10 ⟨rfl, hb10⟩
  have b10 := bel_call b9 hb10
  have Q := Q.of_below hb10
  have BX := BX.of_below hb10
  have BM := BM.of_below hb10
  have o8 := own_below o8 hb10
  have o9 := own_below o9 hb10
  clear Q0 Q1
  obtain ⟨Q0, Q1, _, _⟩ := Q.two
  go_wp2_with (fail)
  refine (hN2 _).mono ?_
  rintro e w11 ⟨rfl, hb11⟩
  have b11 := bel_call b10 hb11
  have Q := Q.of_below hb11
  have BX := BX.of_below hb11
  have BM := BM.of_below hb11
  have o8 := own_below o8 hb11
  have o9 := own_below o9 hb11
  clear Q0 Q1
  clear Q
  go_wp2_with (fail)
  refine (hd2 _ (hs.call b11)).mono ?_
  rintro e w12 ⟨a', b', p, rfl, ⟨hp1, hp2⟩, hb12⟩
  have b12 := bel_call b11 hb12
  have BX := BX.of_below hb12
  have BM := BM.of_below hb12
  have o8 := own_below o8 hb12
  have o9 := own_below o9 hb12
  have hA := fun W => i_AbsoluteAt a' b' p W
  have hA2 := fun W => s_AbsoluteAt a' b' p W (by omega)
  have hRV := fun W => i_RationalValuation a' b' p W
  have HV := Lib.hid (fun h => ab_val (a := a') (b := b') (p := p) h)
  generalize aN a' b' p = AN at *
  generalize aD a' b' p = AD at *
  generalize vV a' b' p = VV at *
  generalize vcode a' b' p = VC at *
  have QA := BK.new w12 61 #[.int .i64 a', .int .i64 b']
  have hbx := (Below.refl w12.heap.size w12).alloc (Nat.le_refl _) (.cells #[.int .i64 a', .int .i64 b'] 61)
  have b13 := bel_call b12 hbx
  have BX := BX.of_below hbx
  have BM := BM.of_below hbx
  have o8 := own_below o8 hbx
  have o9 := own_below o9 hbx
  clear hbx
  obtain ⟨QA0, QA1, _, _⟩ := QA.two
  go_wp2_with (fail)
  generalize w12.alloc (.cells #[.int .i64 a', .int .i64 b'] 61) = w13 at *
  refine (hA _).mono ?_
  rintro e w14 ⟨rfl, hb14⟩
  have b14 := bel_call b13 hb14
  have BX := BX.of_below hb14
  have BM := BM.of_below hb14
  have QA := QA.of_below hb14
  have o8 := own_below o8 hb14
  have o9 := own_below o9 hb14
  clear QA0 QA1
  have BA := BK.new w14 61 #[.int .i64 AN, .int .i64 AD]
  have hbx := (Below.refl w14.heap.size w14).alloc (Nat.le_refl _) (.cells #[.int .i64 AN, .int .i64 AD] 61)
  have b15 := bel_call b14 hbx
  have BX := BX.of_below hbx
  have BM := BM.of_below hbx
  have QA := QA.of_below hbx
  have o8 := own_below o8 hbx
  have o9 := own_below o9 hbx
  clear hbx
  obtain ⟨QA0, QA1, _, _⟩ := QA.two
  go_wp2_with (fail)
  generalize w14.alloc (.cells #[.int .i64 AN, .int .i64 AD] 61) = w15 at *
  refine (hA2 _).mono ?_
  rintro e w16 ⟨rfl, hb16⟩
  have b16 := bel_call b15 hb16
  have BX := BX.of_below hb16
  have BM := BM.of_below hb16
  have QA := QA.of_below hb16
  have BA := BA.of_below hb16
  have o8 := own_below o8 hb16
  have o9 := own_below o9 hb16
  clear QA0 QA1
  have BB := BK.new w16 61 #[.int .i64 AN, .int .i64 AD]
  have hbx := (Below.refl w16.heap.size w16).alloc (Nat.le_refl _) (.cells #[.int .i64 AN, .int .i64 AD] 61)
  have b17 := bel_call b16 hbx
  have BX := BX.of_below hbx
  have BM := BM.of_below hbx
  have QA := QA.of_below hbx
  have BA := BA.of_below hbx
  have o8 := own_below o8 hbx
  have o9 := own_below o9 hbx
  clear hbx
  go_wp2_with (fail)
  generalize w16.alloc (.cells #[.int .i64 AN, .int .i64 AD] 61) = w17 at *
  refine (hd3 _ (hs.call b17)).mono ?_
  rintro e w18 ⟨u, v, x, y, r, rfl, ⟨hr1, hr2⟩, hb18⟩
  have b18 := bel_call b17 hb18
  have BX := BX.of_below hb18
  have BM := BM.of_below hb18
  have QA := QA.of_below hb18
  have BA := BA.of_below hb18
  have BB := BB.of_below hb18
  have o8 := own_below o8 hb18
  have o9 := own_below o9 hb18
  have hC := fun W => i_ClosenessAt u v x y r W (by omega)
  have hC2 := fun W => s_ClosenessAt u v x y r W (by omega)
  have hC3 := fun W => i_ClosenessAt x y u v r W (by omega)
  rw [(cl_sym u v x y r).1, (cl_sym u v x y r).2] at hC3
  generalize clV u v x y r = CV at *
  generalize clC u v x y r = CC at *
  obtain ⟨D1, D2⟩ := two_boxes w18 61 61 #[.int .i64 u, .int .i64 v] #[.int .i64 x, .int .i64 y]
  have hbx := two_alloc w18 (.cells #[.int .i64 u, .int .i64 v] 61) (.cells #[.int .i64 x, .int .i64 y] 61)
  have b19 := bel_call b18 hbx
  have BX := BX.of_below hbx
  have BM := BM.of_below hbx
  have QA := QA.of_below hbx
  have BA := BA.of_below hbx
  have BB := BB.of_below hbx
  have o8 := own_below o8 hbx
  have o9 := own_below o9 hbx
  clear hbx
  obtain ⟨D10, D11, _, _⟩ := D1.two
  obtain ⟨D20, D21, _, _⟩ := D2.two
  go_wp2_with (fail)
  generalize (w18.alloc (.cells #[.int .i64 u, .int .i64 v] 61)).alloc (.cells #[.int .i64 x, .int .i64 y] 61) = w19 at *
  refine (hC _).mono ?_
  rintro e w20 ⟨rfl, hb20⟩
  have b20 := bel_call b19 hb20
  have BX := BX.of_below hb20
  have BM := BM.of_below hb20
  have QA := QA.of_below hb20
  have BA := BA.of_below hb20
  have BB := BB.of_below hb20
  have D1 := D1.of_below hb20
  have D2 := D2.of_below hb20
  have o8 := own_below o8 hb20
  have o9 := own_below o9 hb20
  clear D10 D11 D20 D21
  obtain ⟨D10, D11, _, _⟩ := D1.two
  obtain ⟨D20, D21, _, _⟩ := D2.two
  go_wp2_with (fail)
  refine (hC2 _).mono ?_
  rintro e w21 ⟨rfl, hb21⟩
  have b21 := bel_call b20 hb21
  have BX := BX.of_below hb21
  have BM := BM.of_below hb21
  have QA := QA.of_below hb21
  have BA := BA.of_below hb21
  have BB := BB.of_below hb21
  have D1 := D1.of_below hb21
  have D2 := D2.of_below hb21
  have o8 := own_below o8 hb21
  have o9 := own_below o9 hb21
  clear D10 D11 D20 D21
  obtain ⟨D10, D11, _, _⟩ := D1.two
  obtain ⟨D20, D21, _, _⟩ := D2.two
  obtain ⟨BX0, BX1, _, _⟩ := BX.two
  obtain ⟨BM0, BM1, _, _⟩ := BM.two
  obtain ⟨BA0, BA1, _, _⟩ := BA.two
  obtain ⟨BB0, BB1, _, _⟩ := BB.two
  obtain ⟨QA0, QA1, _, _⟩ := QA.two
  have hlk := l_likeInts A8 A9 L c8 c9 SL w21 _ _ HL.out hLl (own_isn o8 HL.out) (own_isn o9 HL.out)
  have hfz : ∀ z : Int, z = 0 ∨ ((z == 0) = false ∧ (z != 0) = true) := fun z => by
    by_cases h : z = 0
    · exact .inl h
    · exact .inr ⟨by rw [beq_eq_false_iff_ne]; exact h, by rw [bne_iff_ne]; exact h⟩
  have hR : ((RC == 0) = false ∧ (RC != 0) = true) ∨ (RC = 0 ∧ SC = 0 ∧ X = 1 ∧ Y = 1) ∨ (RC = 0 ∧ (SC == 0) = false ∧ (X == 1) = false) ∨ (RC = 0 ∧ (SC == 0) = false ∧ X = 1 ∧ (Y == 1) = false) := by
    rcases hfz RC with rfl | h
    · right
      have h1 := HPO.out rfl
      rcases hfz SC with rfl | h2
      · obtain ⟨h3, h4⟩ := h1.2 rfl
        exact .inl ⟨rfl, rfl, h3, h4⟩
      · have h5 : ¬ (X = 1 ∧ Y = 1) := fun h6 => by have := h1.1 h6; rw [this] at h2; exact absurd h2.1 (by decide)
        by_cases h6 : X = 1
        · exact .inr (.inr ⟨rfl, h2.1, h6, by rw [beq_eq_false_iff_ne]; exact fun h7 => h5 ⟨h6, h7⟩⟩)
        · exact .inr (.inl ⟨rfl, h2.1, by rw [beq_eq_false_iff_ne]; exact h6⟩)
    · exact .inl h
  have hVV : ((VC == 0) = false ∧ (VC != 0) = true) ∨ (VC = 0 ∧ 0 < VV ∧ 1 < AD ∧ AN ≤ 1) ∨ (VC = 0 ∧ VV < 0 ∧ AD ≤ 1 ∧ 1 < AN) ∨ (VC = 0 ∧ VV = 0 ∧ AD ≤ 1 ∧ AN ≤ 1) := by
    rcases hfz VC with rfl | h
    · right
      have h1 := HV.out rfl
      omega
    · exact .inl h
  have hCC := hfz CC
  clear hfz HPO HV HL hLl o8 o9 hX hX2 hL hL2 hN hN2 hA hA2 hC hC2 hd2 hd3
  rcases hR with ⟨r1, r2⟩ | ⟨rfl, rfl, rfl, rfl⟩ | ⟨rfl, r1, r2⟩ | ⟨rfl, r1, rfl, r2⟩ <;> rcases hVV with ⟨n1, n2⟩ | ⟨rfl, v1, v2, v3⟩ | ⟨rfl, v1, v2, v3⟩ | ⟨rfl, rfl, v2, v3⟩ <;> rcases hCC with rfl | ⟨k1, k2⟩
  all_goals
    (try have w1 : decide (0 < VV) = true := decide_eq_true v1)
    (try have w1 : decide (0 < VV) = false := decide_eq_false (by omega))
    (try have w2 : decide (VV < 0) = true := decide_eq_true v1)
    (try have w2 : decide (VV < 0) = false := decide_eq_false (by omega))
    (try have w3 : decide (1 < AD) = true := decide_eq_true v2)
    (try have w3 : decide (1 < AD) = false := decide_eq_false (by omega))
    (try have w4 : decide (1 < AN) = true := decide_eq_true v3)
    (try have w4 : decide (1 < AN) = false := decide_eq_false (by omega))
    (try clear v1)
    (try clear v2)
    (try clear v3)
    go_wp2_with (first
      | (go_at_call 20; refine hlk.mono ?_; rintro e w22 ⟨rfl, q22, rfl⟩; have bL := below_drewN b21 q22)
      | (go_at_call 56; refine (hC3 _).mono ?_; rintro e w23 ⟨rfl, hb23⟩; have bC := bel_call bL hb23; obtain ⟨qa0, qa1, _, _⟩ := ((QA.drewN q22).of_below hb23).two; obtain ⟨ba0, ba1, _, _⟩ := ((BA.drewN q22).of_below hb23).two; obtain ⟨bx0, bx1, _, _⟩ := ((BX.drewN q22).of_below hb23).two; have BA2 := (BA.drewN q22).of_below hb23; have BX2 := (BX.drewN q22).of_below hb23)
      | (go_at_call 58; refine (hRV _).mono ?_; rintro e w24 ⟨rfl, hb24⟩; first | (have bV := bel_call bC hb24; obtain ⟨bb0, bb1, _, _⟩ := (BA2.of_below hb24).two; obtain ⟨by0, by1, _, _⟩ := (BX2.of_below hb24).two) | (have bV := bel_call bL hb24; obtain ⟨bb0, bb1, _, _⟩ := ((BA.drewN q22).of_below hb24).two; obtain ⟨by0, by1, _, _⟩ := ((BX.drewN q22).of_below hb24).two)))
    all_goals go_ret
    all_goals exact ⟨by simp [*], by first | exact bV | exact bC | exact bL | exact below_drewN bV _ | exact below_drewN bC _ | exact below_drewN bL _⟩
end Go.Proofs.Ythjoegoeaiemdaa

/- The law FnBlocks: for every code. -/
import Derived.Test.YtglijcdnnaekkaaGreatA264
import Derived.Test.YtglijcdnnaekkaaGreatA261
import Derived.Test.YtglijcdnnaekkaaGreatA119
import Derived.Deep.Cut
namespace Go.Proofs.YtglijcdnnaekkaaGreat
set_option linter.unusedVariables false
set_option linter.unusedSimpArgs false
open Go.RowKit

theorem cut_w {G : Prop} (w0 : World) {P : World → Prop} (h1 : (∀ W, DR w0 W → P W) → G) (h2 : ∀ W, DR w0 W → P W) : G := h1 h2
theorem bwp_fix {q x y : Int} {m out : List Int} {C : Int} {w w' : World} {e : Ending} (h0 : BWP q m x y out C) (h : ∃ out code, BWP q m x y out code ∧ RVC out code w e w') : RVC out C w e w' := by
  obtain ⟨o', c', h1, h2⟩ := h
  obtain ⟨rfl, rfl⟩ := bwp_unique h1 h0
  exact h2
/-- Are the images of the first j points of row i in row k. -/
def smF (ll : List (List Int)) (a : List Int) (i k : Nat) : Nat → Bool
  | 0 => true
  | j + 1 => smF ll a i k j && decide (gt a (gt (gl ll i) j).toNat ∈ gl ll k)
theorem smF_all {ll : List (List Int)} {a : List Int} {i k K : Nat} (h : ∀ t, t < K → gt a (gt (gl ll i) t).toNat ∈ gl ll k) : smF ll a i k K = true := by
  induction K with
  | zero => rfl
  | succ K ih => rw [smF, ih fun t ht => h t (by omega), decide_eq_true (h K (by omega))]; rfl
/-- Is the image of row i among the first k rows. -/
def fdF (ll : List (List Int)) (a : List Int) (i K : Nat) : Nat → Bool
  | 0 => false
  | k + 1 => fdF ll a i K k || smF ll a i k K
theorem fdF_all {ll : List (List Int)} {a : List Int} {i K m j : Nat} (hj : j < m) (h : smF ll a i j K = true) : fdF ll a i K m = true := by
  induction m with
  | zero => omega
  | succ m ih =>
    rw [fdF]
    by_cases e : j = m
    · subst e; rw [h]; simp
    · rw [ih (by omega)]; rfl
set_option maxRecDepth 20000 in
set_option maxHeartbeats 8000000 in
theorem law_Blocks (A : Option Addr) (n c : Nat) (w : World) (hm : n ≤ maxLen) (hs : YB w w.heap.size A n) :
    Calls Tryz.prog 3 #[.slice A n c] w (M (.bool true) w) := by
  unfold maxLen at hm
  by_cases hbig : 4096 < n
  · go_enter Tryz.func3, Tryz.ntmps3
    go_wp2_with (go_at_call 7; refine (l_bigYes A n c _ hbig).mono ?_; rintro e w1 ⟨rfl, q1, rfl⟩)
    go_ret
    exact ⟨rfl, below_drewN (Below.refl _ _) _⟩
  have hn : n ≤ 4096 := by omega
  clear hm hbig
  have hd1 := fun W h => s_DrawBlocksOf A n c W hn h
  have hd2 := fun W h => s_DrawBlockWith A n c W hn h
  have hro := fun W h => l_roll A n c 2301 W hn h
  have HNB := hn
  clear hn
  go_enter Tryz.func3, Tryz.ntmps3
  go_wp2_with (go_at_call 7; refine (l_bigNo A n c _ HNB).mono ?_; rintro e w1 ⟨rfl, q1, rfl⟩)
  have b1 := below_drewN (Below.refl w.heap.size w) q1
  generalize w.drewN q1 = w1 at *
  refine (hd1 _ (hs.call b1)).mono ?_
  rintro e w2 ⟨p, A2, L, c2, l, s, rfl, hL, hl, h64, IL, hb2⟩
  have b2 := bel_call b1 hb2
  obtain ⟨ll, C0, hBS, hsm⟩ := bsp_ex p s l
  have h1 := fun W h => (i_BlocksOfG p s A2 L c2 l W h64 hL (by omega) h).mono fun e w' h => bsr_fixN hBS h
  have h2 := fun W h => (s_BlocksOf p s A2 L c2 l W hL (by omega) h).mono fun e w' h => bsr_fixN hBS h
  have HF := Lib.hid (show C0 = 0 → ∃ n k : Nat, p = n ∧ s = k ∧ FBK n k l ll ∧ 0 < l.length from fun h => fbk_of (by rw [← h]; exact hBS))
  generalize hLL : ll.length = LL at *
  have HLL := Lib.hid hLL.symm
  have HSM := Lib.hid hsm
  have HL := Lib.hid hL
  clear hLL hBS hsm hL hb2 b1 hd1 h64
  have Q := BK.new w2 26 #[.int .i64 p, .slice A2 L c2]
  have hbx := (Below.refl w2.heap.size w2).alloc (Nat.le_refl _) (.cells #[.int .i64 p, .slice A2 L c2] 26)
  have b3 := bel_call b2 hbx
  clear hbx
  have IL := IL.call (show Below w2.heap.size w2 (w2.alloc (.cells #[.int .i64 p, .slice A2 L c2] 26)) from (Below.refl _ _).alloc (Nat.le_refl _) _)
  obtain ⟨Q0, Q1, _, _⟩ := Q.two
  go_wp2_with (fail)
  generalize w2.alloc (.cells #[.int .i64 p, .slice A2 L c2] 26) = w3 at *
  refine (h1 _ IL).mono ?_
  rintro e w4 ⟨A4, c4, vs4, rfl, o4, r4, hb4⟩
  have b4 := bel_call b3 hb4
  have Q := Q.of_below hb4
  have IL := IL.call hb4
  clear Q0 Q1
  obtain ⟨Q0, Q1, _, _⟩ := Q.two
  go_wp2_with (fail)
  refine (h2 _ IL).mono ?_
  rintro e w5 ⟨A5, c5, vs5, rfl, o5, r5, hb5⟩
  have b5 := bel_call b4 hb5
  have Q := Q.of_below hb5
  have o4 := own_below o4 hb5
  have r4 := RowsO.below r4 hb5
  have IL := IL.call hb5
  clear Q0 Q1
  go_wp2_with (fail)
  refine (hd2 _ (hs.call b5)).mono ?_
  rintro e w6 ⟨q, A10, M, c10, m, x, y, rfl, hM, hMl, IM, hb6⟩
  have b6 := bel_call b5 hb6
  have Q := Q.of_below hb6
  have o4 := own_below o4 hb6
  have o5 := own_below o5 hb6
  have r4 := RowsO.below r4 hb6
  have r5 := RowsO.below r5 hb6
  have IL := IL.call hb6
  obtain ⟨out, C1, hBW, hol⟩ := bwp_ex q x y m
  have k1 := fun W h => i_BlockWith q x y A10 M c10 m out C1 W hM (by omega) h hBW
  have k2 := fun W h => (s_BlockWith q x y A10 M c10 m W hM (by omega) h).mono fun e w' h => bwp_fix hBW h
  have k3 := fun W h => i_IsTransitiveV q A10 M c10 m W hM (by omega) h
  have k4 := fun W h => s_IsTransitiveV q A10 M c10 m W hM (by omega) h
  have k5 := fun W h => i_IsPrim q A10 M c10 m W hM (by omega) h
  have k6 := fun W h => s_IsPrim q A10 M c10 m W hM (by omega) h
  unfold RVC at k1 k2
  have HB := Lib.hid (show C1 = 0 → ∃ n : Nat, q = n ∧ 1 ≤ n ∧ n ≤ 6 ∧ x ∈ out ∧ y ∈ out ∧ 0 < out.length ∧ out.length ≤ 6 ∧ n % out.length = 0 ∧ (x ≠ y → prV q m = true → out.length = n) from fun h => bw_facts (by rw [← h]; exact hBW))
  have hpt := prV_tv (p := q) (l := m)
  generalize prV q m = PV at *
  generalize tvV q m = TV at *
  generalize mvC q m = C2 at *
  generalize hLO : out.length = LO at *
  have HLO := Lib.hid hLO.symm
  have HPT := Lib.hid hpt
  clear hLO hM hd2 hBW hpt
  have Q2 := BK.new w6 26 #[.int .i64 q, .slice A10 M c10]
  have hbx := (Below.refl w6.heap.size w6).alloc (Nat.le_refl _) (.cells #[.int .i64 q, .slice A10 M c10] 26)
  have b7 := bel_call b6 hbx
  have Q := Q.of_below hbx
  have o4 := own_below o4 hbx
  have o5 := own_below o5 hbx
  have r4 := RowsO.below r4 hbx
  have r5 := RowsO.below r5 hbx
  clear hbx
  have IL := IL.call (show Below w6.heap.size w6 (w6.alloc (.cells #[.int .i64 q, .slice A10 M c10] 26)) from (Below.refl _ _).alloc (Nat.le_refl _) _)
  have IM := IM.call (show Below w6.heap.size w6 (w6.alloc (.cells #[.int .i64 q, .slice A10 M c10] 26)) from (Below.refl _ _).alloc (Nat.le_refl _) _)
  obtain ⟨Q20, Q21, _, _⟩ := Q2.two
  go_wp2_with (fail)
  generalize w6.alloc (.cells #[.int .i64 q, .slice A10 M c10] 26) = w7 at *
  refine (k1 _ IM).mono ?_
  rintro e w8 ⟨A8, c8, rfl, o8, hb8⟩
  have b8 := bel_call b7 hb8
  have Q := Q.of_below hb8
  have Q2 := Q2.of_below hb8
  have o4 := own_below o4 hb8
  have o5 := own_below o5 hb8
  have r4 := RowsO.below r4 hb8
  have r5 := RowsO.below r5 hb8
  have IM := IM.call hb8
  have IL := IL.call hb8
  clear Q20 Q21
  obtain ⟨Q20, Q21, _, _⟩ := Q2.two
  go_wp2_with (fail)
  refine (k2 _ IM).mono ?_
  rintro e w9 ⟨A9, c9, rfl, o9, hb9⟩
  have b9 := bel_call b8 hb9
  have Q := Q.of_below hb9
  have Q2 := Q2.of_below hb9
  have o4 := own_below o4 hb9
  have o5 := own_below o5 hb9
  have o8 := own_below o8 hb9
  have r4 := RowsO.below r4 hb9
  have r5 := RowsO.below r5 hb9
  have IM := IM.call hb9
  have IL := IL.call hb9
  clear Q20 Q21
  obtain ⟨Q20, Q21, _, _⟩ := Q2.two
  go_wp2_with (fail)
  refine (k3 _ IM).mono ?_
  rintro e w10 ⟨rfl, hb10⟩
  have b10 := bel_call b9 hb10
  have Q := Q.of_below hb10
  have Q2 := Q2.of_below hb10
  have o4 := own_below o4 hb10
  have o5 := own_below o5 hb10
  have o8 := own_below o8 hb10
  have o9 := own_below o9 hb10
  have r4 := RowsO.below r4 hb10
  have r5 := RowsO.below r5 hb10
  have IM := IM.call hb10
  have IL := IL.call hb10
  clear Q20 Q21
  obtain ⟨Q20, Q21, _, _⟩ := Q2.two
  go_wp2_with (fail)
  refine (k4 _ IM).mono ?_
  rintro e w11 ⟨rfl, hb11⟩
  have b11 := bel_call b10 hb11
  have Q := Q.of_below hb11
  have Q2 := Q2.of_below hb11
  have o4 := own_below o4 hb11
  have o5 := own_below o5 hb11
  have o8 := own_below o8 hb11
  have o9 := own_below o9 hb11
  have r4 := RowsO.below r4 hb11
  have r5 := RowsO.below r5 hb11
  have IM := IM.call hb11
  have IL := IL.call hb11
  clear Q20 Q21
  obtain ⟨Q20, Q21, _, _⟩ := Q2.two
  go_wp2_with (fail)
  refine (k5 _ IM).mono ?_
  rintro e w12 ⟨rfl, hb12⟩
  have b12 := bel_call b11 hb12
  have Q := Q.of_below hb12
  have Q2 := Q2.of_below hb12
  have o4 := own_below o4 hb12
  have o5 := own_below o5 hb12
  have o8 := own_below o8 hb12
  have o9 := own_below o9 hb12
  have r4 := RowsO.below r4 hb12
  have r5 := RowsO.below r5 hb12
  have IM := IM.call hb12
  have IL := IL.call hb12
  clear Q20 Q21
  obtain ⟨Q20, Q21, _, _⟩ := Q2.two
  go_wp2_with (fail)
  refine (k6 _ IM).mono ?_
  rintro e w13 ⟨rfl, hb13⟩
  have b13 := bel_call b12 hb13
  have Q := Q.of_below hb13
  have Q2 := Q2.of_below hb13
  have o4 := own_below o4 hb13
  have o5 := own_below o5 hb13
  have o8 := own_below o8 hb13
  have o9 := own_below o9 hb13
  have r4 := RowsO.below r4 hb13
  have r5 := RowsO.below r5 hb13
  have IM := IM.call hb13
  have IL := IL.call hb13
  clear Q20 Q21
  have ii4 := OwnII.ii o4 r4
  have ii5 := OwnII.ii o5 r5
  have i8 := own_isn o8 HLO.out
  have i9 := own_isn o9 HLO.out
  have lk1 := fun W (h : Below w13.heap.size w13 W) => l_likeTables A4 A5 LL c4 c5 ll W _ _ HLL.out (by have := HSM.out.1; omega) (fun k hk => by have := HSM.out.2 k hk; omega) (ii4.below h) (ii5.below h)
  have lk2 := fun W (h : Below w13.heap.size w13 W) => l_likeInts A8 A9 LO c8 c9 out W _ _ HLO.out (by omega) (i8.below h) (i9.below h)
  have hz0 := Below.refl w13.heap.size w13
  have hfz : ∀ z : Int, z = 0 ∨ ((z == 0) = false ∧ (z != 0) = true) := fun z => by
    by_cases h : z = 0
    · exact .inl h
    · exact .inr ⟨by rw [beq_eq_false_iff_ne]; exact h, by rw [bne_iff_ne]; exact h⟩
  have hC1 := hfz C1
  have hC2 := hfz C2
  have hC0 := hfz C0
  have hTT : (TV != TV) = false := by cases TV <;> rfl
  have hPP : (PV != PV) = false := by cases PV <;> rfl
  clear h1 h2 k1 k2 k3 k4 k5 k6 IM o4 o5 o8 o9 r4 r5 i9 hfz
  go_upto_region 15 with (first
    | (go_at_call 18; refine (lk1 _ hz0).mono ?_; rintro e w20 ⟨rfl, q20, rfl⟩; have hz1 := below_drewN hz0 q20)
    | (go_at_call 19; refine (lk2 _ hz1).mono ?_; rintro e w21 ⟨rfl, q21, rfl⟩; have hz2 := below_drewN hz1 q21))
  have hz2 : Below w13.heap.size w13 (w13.drewN (q20 + q21)) := below_drewN (Below.refl _ _) _
  have hd2 : DR w13 (w13.drewN (q20 + q21)) := ⟨_, rfl⟩
  generalize w13.drewN (q20 + q21) = W2 at *
  go_cut [168] from 132 (fun s wx => s = .bool false ∧ DR w13 wx)
  case first =>
    rcases hC1 with rfl | ⟨x1, x2⟩
    · obtain ⟨N, rfl, n1, n6, hx, hy, hl0, hl6, hmod, hxy⟩ := HB.out rfl
      have HX := Lib.hid hx
      have HY := Lib.hid hy
      have hrem : Int.tmod (N : Int) (LO : Int) = 0 := by rw [Int.tmod_eq_emod_of_nonneg (by omega)]; omega
      have hne : ¬ (LO : Int) = 0 := by omega
      have Q2' := Q2.of_below hz2
      obtain ⟨Q20, Q21, _, _⟩ := Q2'.two
      have hh1 := fun W (h : Below w13.heap.size w13 W) => l_hasInt A8 LO c8 x out W _ HLO.out (by omega) HX.out (i8.below h)
      have hh2 := fun W (h : Below w13.heap.size w13 W) => l_hasInt A8 LO c8 y out W _ HLO.out (by omega) HY.out (i8.below h)
      by_cases hxe : x = y
      · subst hxe
        have hee : (x != x) = false := by simp
        clear hx hy hxy hmod HPT HB
        go_wp2_with (first
          | (go_at_call 20; have z2 := hz3; refine (hh2 _ hz3).mono ?_; rintro e w23 ⟨rfl, q23, rfl⟩)
          | (go_at_call 20; refine (hh1 _ hz2).mono ?_; rintro e w22 ⟨rfl, q22, rfl⟩; have hz3 := below_drewN hz2 q22))
        go_meet
        case rel => exact ⟨rfl, by repeat (first | exact hd2 | refine DR.step ?_ _)⟩
      · have hee : (x != y) = true := by rw [bne_iff_ne]; exact hxe
        cases PV
        · clear hx hy hxy hmod HPT HB
          go_wp2_with (first
            | (go_at_call 20; have z2 := hz3; refine (hh2 _ hz3).mono ?_; rintro e w23 ⟨rfl, q23, rfl⟩)
            | (go_at_call 20; refine (hh1 _ hz2).mono ?_; rintro e w22 ⟨rfl, q22, rfl⟩; have hz3 := below_drewN hz2 q22))
          go_meet
          case rel => exact ⟨rfl, by repeat (first | exact hd2 | refine DR.step ?_ _)⟩
        · obtain rfl : LO = N := hxy hxe rfl
          clear hx hy hxy hmod HPT HB
          go_wp2_with (first
            | (go_at_call 20; have z2 := hz3; refine (hh2 _ hz3).mono ?_; rintro e w23 ⟨rfl, q23, rfl⟩)
            | (go_at_call 20; refine (hh1 _ hz2).mono ?_; rintro e w22 ⟨rfl, q22, rfl⟩; have hz3 := below_drewN hz2 q22))
          go_meet
          case rel => exact ⟨rfl, by repeat (first | exact hd2 | refine DR.step ?_ _)⟩
    · clear HB
      go_wp2_with (first
        | (go_at_call 20; have z2 := hz3; refine (hh2 _ hz3).mono ?_; rintro e w23 ⟨rfl, q23, rfl⟩)
        | (go_at_call 20; refine (hh1 _ hz2).mono ?_; rintro e w22 ⟨rfl, q22, rfl⟩; have hz3 := below_drewN hz2 q22))
      go_meet
      case rel => exact ⟨rfl, by repeat (first | exact hd2 | refine DR.step ?_ _)⟩
  case rest =>
    obtain ⟨rfl, hd3⟩ := hcut
    have hz3 : Below w13.heap.size w13 wc := by obtain ⟨qd, rfl⟩ := hd3; exact below_drewN (Below.refl _ _) qd
    obtain ⟨W3, rfl⟩ : ∃ W3 : World, W3 = wc := ⟨_, rfl⟩
    go_upto_region 17 with (fail)
    go_cut [177] from 169 (fun s wx => s = .bool false ∧ DR w13 wx)
    case first =>
      rcases hC2 with rfl | ⟨y1, y2⟩
      · cases PV
        · go_wp2_with (fail)
          go_meet
          case rel => exact ⟨rfl, by repeat (first | exact hd3 | refine DR.step ?_ _)⟩
        · obtain rfl : TV = true := HPT.out rfl
          go_wp2_with (fail)
          go_meet
          case rel => exact ⟨rfl, by repeat (first | exact hd3 | refine DR.step ?_ _)⟩
      · go_wp2_with (fail)
        go_meet
        case rel => exact ⟨rfl, by repeat (first | exact hd3 | refine DR.step ?_ _)⟩
    case rest =>
      obtain ⟨rfl, hdr⟩ := hcut
      obtain ⟨W, rfl⟩ : ∃ W : World, W = wc := ⟨_, rfl⟩
      have hbW : Below w13.heap.size w13 W := by obtain ⟨qd, rfl⟩ := hdr; exact below_drewN (Below.refl _ _) qd
      have bW := bel_call b13 hbW
      have hsW := hs.call bW
      have QW := Q.of_below hbW
      have ILW := IL.call hbW
      have j4 := ii4.below hbW
      have j5 := ii5.below hbW
      clear lk1 lk2 hz0 ii4 ii5 i8 IL Q Q2 HB HPT hC1 hC2 hTT hPP hd2 hd3 hz2 hz3 hz1
      rcases hC0 with rfl | ⟨y1, y2⟩
      · obtain ⟨N, K, rfl, rfl, ⟨n1, n6, k1, hrow, hall, hinr, himg, hrk⟩, hL0⟩ := HF.out rfl
        rw [← HLL.out] at hrow hall hinr himg
        have hL0' : 0 < L := by rw [HL.out]; exact hL0
        have hLL0 : 0 < LL := by
          rcases Nat.eq_zero_or_pos LL with h | h
          · rw [h, Nat.zero_mul] at hall; omega
          · exact h
        have hKb : ∀ i, i ≤ LL → i * K ≤ 6 := fun i hi => by have := Nat.mul_le_mul_right K hi; omega
        have hK6 : K ≤ 6 := by have := hKb 1 hLL0; omega
        have hLLb : LL ≤ 6 := by have := Nat.le_mul_of_pos_right LL k1; rw [hall] at this; omega
        obtain ⟨bL, offL, rfl, hbL, hcL⟩ := ILW.at hL0
        obtain ⟨b4, off4, rfl, hb4, hc4⟩ := j4.at (k := 0) (by rw [← HLL.out]; exact hLL0)
        obtain ⟨b5, off5, rfl, hb5, hc5⟩ := j5.at (k := 0) (by rw [← HLL.out]; exact hLL0)
        have HC4 := Lib.hid (show ∀ k, k < LL → ∃ A' c', W.cell? ⟨b4, off4 + k, none⟩ = some (.slice A' K c') ∧ IS W w13.heap.size A' (gl ll k) from fun k hk => by
          obtain ⟨A', c', h1, _, _, h2⟩ := hc4 k (by rw [← HLL.out]; exact hk)
          rw [hrow k hk] at h1
          exact ⟨A', c', h1, h2⟩)
        have HC5 := Lib.hid (show ∀ k, k < LL → ∃ A' c', W.cell? ⟨b5, off5 + k, none⟩ = some (.slice A' K c') from fun k hk => by
          obtain ⟨A', c', h1, _, _, h2⟩ := hc5 k (by rw [← HLL.out]; exact hk)
          rw [hrow k hk] at h1
          exact ⟨A', c', h1⟩)
        have HROW := Lib.hid hrow
        have HALL := Lib.hid hall
        have HINR := Lib.hid hinr
        have HIMG := Lib.hid himg
        have HRK := Lib.hid hrk
        have HKB := Lib.hid hKb
        have HCL := Lib.hid hcL
        clear hrow hall hinr himg hrk hKb hc4 hc5 j4 j5 ILW HSM hL0 hcL
        go_wp2_with (fail)
        go_loopw [24, 25] (fun u24 u25 wr => ∃ i t : Nat, i ≤ LL ∧ u24 = .int .i64 (t : Int) ∧ u25 = .int .i64 (i : Int) ∧ Hid (t = i * K) ∧ DR W wr) (fun _ u25 _ => LL - (intOf u25).toNat)
        case atStart => exact ⟨0, 0, Nat.zero_le _, rfl, rfl, (Nat.zero_mul K).symm, DR.refl _⟩
        case round =>
          obtain ⟨i, t, hi, rfl, rfl, HT, hdr2⟩ := hrel
          by_cases hlt : i < LL
          · have hte : t + K ≤ 6 := by rw [HT.out, ← Nat.succ_mul]; exact HKB.out (i + 1) hlt
            have HT2 : Hid (t + K = (i + 1) * K) := by show t + K = (i + 1) * K; rw [HT.out, Nat.succ_mul]
            obtain ⟨Ar, cr, h1, _⟩ := HC4.out i hlt
            have h1 := (hdr2.cell _).trans h1
            have hwt : IntKind.i64.wrap ((t : Int) + (K : Int)) = (t : Int) + (K : Int) := IntWalk.i64_in _ (by omega)
            go_wp2_with (fail)
            go_roundw
            case rel => exact ⟨i + 1, t + K, by omega, by go_num, by go_num, HT2, by first | exact hdr2 | (repeat (first | exact hdr2 | refine DR.step ?_ _))⟩
            case measure => simp [intOf]; omega
          · obtain rfl : i = LL := by omega
            obtain ⟨wl, rfl⟩ : ∃ wl : World, wl = wr := ⟨_, rfl⟩
            have htN : N = t := by rw [HT.out]; exact HALL.out.symm
            subst htN
            have hbr : Below W.heap.size W wl := by obtain ⟨qd, rfl⟩ := hdr2; exact below_drewN (Below.refl _ _) qd
            have Qr := QW.of_below hbr
            have hsr := hsW.call hbr
            have br := bel_call bW hbr
            have hzW := hbW.size
            have hzr := hbr.size
            have hcr : ∀ j, j < l.length → wl.cell? ⟨bL, offL + j, none⟩ = some (.int .i64 (gt l j)) := fun j hj => (hdr2.cell _).trans (HCL.out j hj)
            have HCR := Lib.hid hcr
            have hrr := hro wl.drew hsr
            have hqlt := Qr.lt
            have hcq : ∀ W', Below wl.heap.size wl W' → W'.cell? ⟨w2.heap.size, 0, none⟩ = some (.int .i64 (N : Int)) ∧ W'.cell? ⟨w2.heap.size, 1, none⟩ = some (.slice (some ⟨bL, offL, none⟩) L c2) ∧ ∀ j, j < L → W'.cell? ⟨bL, offL + j, none⟩ = some (.int .i64 (gt l j)) := fun W' h => ⟨(Qr.of_below h).two.1, (Qr.of_below h).two.2.1, fun j hj => (h.cell (p := ⟨bL, offL + j, none⟩) (by show bL < wl.heap.size; omega)).trans (HCR.out j (by rw [← HL.out]; exact hj))⟩
            have hpw : ∀ r, r < L → ∀ W', Calls Tryz.prog 21 #[.int .i64 (N : Int), .int .i64 (gt l r)] W' (fun e w' => ∃ (ρ : Nat) (Aa : Option Addr) (ca : Nat), gt l r = (ρ : Int) ∧ ρ < fact N ∧ e = .returned (.tuple #[.slice Aa N ca, .int .i64 0]) ∧ IS w' w'.heap.size Aa (wrL N ρ) ∧ Below W'.heap.size W' w') := fun r hr W' => by
              obtain ⟨ρ, hρ, hρF⟩ := HRK.out r (by rw [← HL.out]; exact hr)
              rw [hρ]
              exact (i_PermutationWith N ρ W' n1 n6 hρF).mono fun e w' h => by
                obtain ⟨Aa, ca, h1, _, h2, h3⟩ := h
                exact ⟨ρ, Aa, ca, rfl, hρF, h1, h2, h3⟩
            have hbe := fun W' h => l_below wl.heap.size L W' (by omega) (by omega) h
            obtain ⟨p0, p1, _⟩ := hcq wl (Below.refl _ _)
            have hS0 := hcq wl.drew (below_drewN (Below.refl _ _) 1)
            have HQ := Lib.hid hcq
            clear hcr hro hcq
            go_upto_region 28 with (fail)
            go_cut [26, 27] from 196 (fun s26 s27 wx => ∃ (r ρ : Nat) (Aa : Option Addr) (ca : Nat), r < L ∧ gt l r = (ρ : Int) ∧ ρ < fact N ∧ s26 = .slice Aa N ca ∧ s27 = .int .i64 0 ∧ IS wx wx.heap.size Aa (wrL N ρ) ∧ Below wl.heap.size wl wx)
            case first =>
              clear p0 p1
              go_region_held3 (fun W' => W'.cell? ⟨w2.heap.size, 0, none⟩ = some (.int .i64 (N : Int)) ∧ W'.cell? ⟨w2.heap.size, 1, none⟩ = some (.slice (some ⟨bL, offL, none⟩) L c2) ∧ ∀ j, j < L → W'.cell? ⟨bL, offL + j, none⟩ = some (.int .i64 (gt l j))) ((first | exact hS30 | exact hS29 | exact hS28 | exact hS0))
                (first
                  | (go_at_call 21; refine (hpw r hr _).mono ?_; rintro e w30 ⟨ρ, Aa, ca, hρ, hρF, rfl, ia, hb30⟩; have b30 := bel_call b29 hb30; have hS30 := HQ.out _ b30)
                  | (go_at_call 23; refine (hbe w28 hD28).mono ?_; rintro e w29 ⟨r, rfl, hr, hD29, hu29⟩; have b29 : Below wl.heap.size wl w29 := hb28.trans ((hu29.mono (B' := wl.heap.size) hz28).below (Nat.le_refl _)); have hS29 := HQ.out _ b29)
                  | (go_at_call 22; refine hrr.mono ?_; rintro e w28 ⟨rfl, hD28, hb28⟩; have hb28 : Below wl.heap.size wl w28 := undrew (n := 1) hb28; have hS28 := HQ.out _ hb28; have hz28 := hb28.size)
                  | fail)
              go_wp2_with (fail)
              go_meet
              case rel => exact ⟨r, ρ, Aa, ca, hr, hρ, hρF, rfl, rfl, ia, b30⟩
            case rest =>
              obtain ⟨r, ρ, Aa, ca, hr, hρ, hρF, rfl, rfl, ia, b30l⟩ := hcut
              obtain ⟨w30, rfl⟩ : ∃ w30 : World, w30 = wc := ⟨_, rfl⟩
              have Q30 := Qr.of_below b30l
              have b30 := bel_call hbr b30l
              have bb30 := bel_call bW b30
              clear hS0 HQ p0 p1 b30l hpw hbe
              have haL : (wrL N ρ).length = N := (wrL_in hρF).1
              have HIM := Lib.hid (show ∀ z, z < i → fdF ll (wrL N ρ) z K i = true from fun z hz => by
                obtain ⟨j, hj, h⟩ := HIMG.out r (by rw [← HL.out]; exact hr) z hz
                refine fdF_all hj (smF_all fun t ht => ?_)
                have := h t ht
                rw [hρ, Int.toNat_natCast] at this
                exact this)
              obtain ⟨ba, offa, rfl, hba, hcA⟩ := ia.at (k := 0) (by rw [haL]; omega)
              rw [haL] at hcA
              generalize wrL N ρ = a at *
              have HCA := Lib.hid hcA
              have H4 := Lib.hid (show ∀ k, k < i → ∃ A' c', w30.cell? ⟨b4, off4 + k, none⟩ = some (.slice A' K c') ∧ IS w30 w13.heap.size A' (gl ll k) from fun k hk => by
                obtain ⟨A', c', h1, h2⟩ := HC4.out k hk
                exact ⟨A', c', (b30.cell (p := ⟨b4, off4 + k, none⟩) (by show b4 < W.heap.size; omega)).trans h1, h2.below (b30.mono hzW)⟩)
              have H5 := Lib.hid (show ∀ k, k < i → ∃ A' c', w30.cell? ⟨b5, off5 + k, none⟩ = some (.slice A' K c') from fun k hk => by
                obtain ⟨A', c', h1⟩ := HC5.out k hk
                exact ⟨A', c', (b30.cell (p := ⟨b5, off5 + k, none⟩) (by show b5 < W.heap.size; omega)).trans h1⟩)
              obtain ⟨p0, p1, _, _⟩ := Q30.two
              clear hcA HC4 HC5 HIMG HRK HCL HCR hrr ia Qr QW hsr hsW hρ
              go_wp2_with (fail)
              go_loopw [28] (fun u28 wq => ∃ z : Nat, z ≤ i ∧ u28 = .int .i64 (z : Int) ∧ DR w30 wq) (fun u28 _ => i - (intOf u28).toNat)
              case atStart => exact ⟨0, Nat.zero_le _, rfl, DR.refl _⟩
              case round =>
                obtain ⟨ws, rfl⟩ : ∃ ws : World, ws = wr := ⟨_, rfl⟩
                obtain ⟨z, hz, rfl, hdz⟩ := hrel
                by_cases hzl : z < i
                · obtain ⟨Ai, ci, hi4, hii⟩ := H4.out z hzl
                  obtain ⟨Am, cm, hi5⟩ := H5.out z hzl
                  have HFD := Lib.hid (HIM.out z hzl)
                  go_wp2_with (fail)
                  go_loopw [29, 30] (fun u29 u30 wq => ∃ k : Nat, k ≤ i ∧ u29 = .bool (fdF ll a z K k) ∧ u30 = .int .i64 (k : Int) ∧ DR w30 wq) (fun _ u30 _ => i - (intOf u30).toNat)
                  case atStart => exact ⟨0, Nat.zero_le _, rfl, rfl, by first | exact hdz | (repeat (first | exact hdz | refine DR.step ?_ _))⟩
                  case round =>
                    obtain ⟨wt, rfl⟩ : ∃ wt : World, wt = wr := ⟨_, rfl⟩
                    obtain ⟨k, hk, rfl, rfl, hdk⟩ := hrel
                    by_cases hkl : k < i
                    · obtain ⟨Ak, ck, hk4, hik⟩ := H4.out k hkl
                      generalize hfd : fdF ll a z K k = fd at *
                      have HFK := Lib.hid (show fdF ll a z K (k + 1) = (fd || smF ll a z k K) by rw [fdF, hfd])
                      clear hfd
                      go_wp2_with (fail)
                      go_loopw [31, 32] (fun u31 u32 wq => ∃ j : Nat, j ≤ K ∧ u31 = .bool (smF ll a z k j) ∧ u32 = .int .i64 (j : Int) ∧ DR w30 wq) (fun _ u32 _ => K - (intOf u32).toNat)
                      case atStart => exact ⟨0, Nat.zero_le _, rfl, rfl, by first | exact hdk | (repeat (first | exact hdk | refine DR.step ?_ _))⟩
                      case round =>
                        obtain ⟨wv, rfl⟩ : ∃ wv : World, wv = wr := ⟨_, rfl⟩
                        obtain ⟨j, hj, rfl, rfl, hdj⟩ := hrel
                        have f5 := (hdj.cell _).trans hi5
                        by_cases hjl : j < K
                        · have hin := HINR.out z j hzl hjl
                          obtain ⟨bi, offi, rfl, hbi, hci⟩ := hii.at (k := j) (by rw [HROW.out z hzl]; exact hjl)
                          obtain ⟨v, hv⟩ := Int.eq_ofNat_of_zero_le hin.1
                          have hvN : v < N := by omega
                          have f1 := (hdj.cell _).trans hk4
                          have f2 := (hdj.cell _).trans hi4
                          have f3 : wv.cell? ⟨bi, offi + j, none⟩ = some (.int .i64 (v : Int)) := by rw [← hv]; exact (hdj.cell _).trans (hci j (by rw [HROW.out z hzl]; exact hjl))
                          have f4 := (hdj.cell _).trans (HCA.out v hvN)
                          have hikv : IS wv w13.heap.size Ak (gl ll k) := by obtain ⟨qd, rfl⟩ := hdj; exact hik
                          have HSS := Lib.hid (show smF ll a z k (j + 1) = (smF ll a z k j && decide (gt a v ∈ gl ll k)) by rw [smF, hv, Int.toNat_natCast])
                          generalize gt a v = x at *
                          generalize smF ll a z k j = sm at *
                          have hrk' := HROW.out k hkl
                          have HRL := Lib.hid hrk'.symm
                          clear hci hin hv hrk'
                          cases sm
                          · go_wp2_with (go_quiet (fail))
                            go_roundw
                            case rel => exact ⟨j + 1, by omega, by rw [HSS.out]; rfl, by go_num, by repeat (first | exact hdj | refine DR.step ?_ _)⟩
                            case measure => simp [intOf]; omega
                          · go_wp2_with (go_quiet ((go_at_call 20; exact Calls.quiet_of (l_hasIntB Ak K ck x (gl ll k) _ _ HRL.out (by omega) (hikv.drewN _)))))
                            go_roundw
                            case rel => exact ⟨j + 1, by omega, by rw [HSS.out]; simp, by go_num, by repeat (first | exact hdj | refine DR.step ?_ _)⟩
                            case measure => simp [intOf]; omega
                        · obtain rfl : j = K := by omega
                          generalize smF ll a z k j = sm at *
                          cases fd
                          · go_wp2_with (fail)
                            go_roundw
                            case rel => exact ⟨k + 1, by omega, by rw [HFK.out]; simp, by go_num, by first | exact hdj | (repeat (first | exact hdj | refine DR.step ?_ _))⟩
                            case measure => simp [intOf]; omega
                          · go_wp2_with (fail)
                            go_roundw
                            case rel => exact ⟨k + 1, by omega, by rw [HFK.out]; simp, by go_num, by first | exact hdj | (repeat (first | exact hdj | refine DR.step ?_ _))⟩
                            case measure => simp [intOf]; omega
                    · obtain rfl : k = i := by omega
                      rw [HFD.out]
                      go_wp2_with (fail)
                      go_roundw
                      case rel => exact ⟨z + 1, by omega, by go_num, by first | exact hdk | (repeat (first | exact hdk | refine DR.step ?_ _))⟩
                      case measure => simp [intOf]; omega
                · obtain rfl : z = i := by omega
                  have hbz : Below w30.heap.size w30 ws := by obtain ⟨qd, rfl⟩ := hdz; exact below_drewN (Below.refl _ _) qd
                  go_wp2_with (fail)
                  go_ret
                  exact ⟨rfl, bel_call bb30 hbz⟩
      · go_wp2_with (fail)
        go_ret
        exact ⟨rfl, bW⟩
end Go.Proofs.YtglijcdnnaekkaaGreat

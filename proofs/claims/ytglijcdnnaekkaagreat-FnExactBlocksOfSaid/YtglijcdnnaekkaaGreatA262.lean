/- All images of the first block of a size: the law. -/
import Derived.Test.YtglijcdnnaekkaaGreatA261
import Derived.Test.YtglijcdnnaekkaaGreatA176
namespace Go.Proofs.YtglijcdnnaekkaaGreat
set_option linter.unusedVariables false
set_option linter.unusedSimpArgs false
open Go.RowKit

theorem bsp_ex (p s : Int) (l : List Int) : ∃ out code, BSP p l s out code ∧ out.length ≤ 720 ∧ ∀ k, k < out.length → (gl out k).length ≤ 6 := by
  have he : ∀ code, BSP p l s [] code → ∃ out code, BSP p l s out code ∧ out.length ≤ 720 ∧ ∀ k, k < out.length → (gl out k).length ≤ 6 := fun code h => ⟨[], code, h, by simp, fun k hk => by simp at hk⟩
  cases hg : grpB p l
  · exact he 1 (.inl ⟨hg, rfl, rfl⟩)
  · obtain ⟨n, rfl, h1, h2, h3, h4, hk⟩ := grpB_t hg
    by_cases hbad : ∃ k : Nat, s = k ∧ 1 ≤ k ∧ k ≤ n ∧ n % k = 0
    · obtain ⟨k, rfl, k1, k2, k3⟩ := hbad
      by_cases ht : (orL n l 0).length = n
      · rcases hb : bkF n l k with _ | pts
        · exact he 4 (.inr ⟨n, rfl, hg, .inr ⟨k, rfl, k1, k2, k3, .inr ⟨ht, .inl ⟨hb, rfl, rfl⟩⟩⟩⟩)
        · obtain ⟨B, rfl, b1, b2, b3, b4, b5⟩ := bkF_some hb
          have hG := pg_of hg
          have hout := imS_bkO hG b2 b3 ((blk_iff hG b2 b3).1 b5) (by omega)
          refine ⟨_, 0, .inr ⟨n, rfl, hg, .inr ⟨k, rfl, k1, k2, k3, .inr ⟨ht, .inr ⟨_, hb, hout, rfl⟩⟩⟩⟩, ?_, fun j hj => ?_⟩
          · have := imS_len ((memL n l).map fun a => imgL a (tJ B)) ((memL n l).map fun a => imgL a (tJ B)).length
            rw [List.length_map, memL_len] at this ⊢
            omega
          · obtain ⟨a, _, e⟩ := (hout.2 _).1 (gl_mem hj)
            rw [← e, img_len, tJ_len]
            omega
      · exact he 5 (.inr ⟨n, rfl, hg, .inr ⟨k, rfl, k1, k2, k3, .inl ⟨ht, rfl, rfl⟩⟩⟩)
    · exact he 2 (.inr ⟨n, rfl, hg, .inl ⟨hbad, rfl, rfl⟩⟩)
theorem bsr_fix {p s code : Int} {l : List Int} {ll : List (List Int)} {w w' : World} {e : Ending} (h0 : BSP p l s ll code) (h : BSR p l s w e w') : ∃ (A : Option Addr) (m c : Nat) (vs : List Value), m = ll.length ∧ e = .returned (.tuple #[.slice A m c, .int .i64 code]) ∧ w'.ownsRow w.heap.size 24 1 (.slice A m c) m vs ∧ RowsO w' w.heap.size vs ll ∧ Below w.heap.size w w' := by
  obtain ⟨A, m, c, vs, out, cd, h1, h2, h3, h4, h5, h6⟩ := h
  obtain ⟨rfl, rfl⟩ := bsp_unique h2 h0
  exact ⟨A, m, c, vs, h3, h1, h4, h5, h6⟩
set_option maxRecDepth 20000 in
set_option maxHeartbeats 8000000 in
theorem law_BlocksOf (p : Int) (A : Option Addr) (n c : Nat) (l : List Int) (s : Int) (hs64 : -9223372036854775808 ≤ s ∧ s ≤ 9223372036854775807) (w : World) (hn : n = l.length) (hc : n ≤ c) (hm : c ≤ maxLen) (hs : IS w w.heap.size A l) :
    Calls Tryz.prog 6 #[.agg #[.int .i64 p, .slice A n c], .int .i64 s] w (M (.bool true) w) := by
  have HN := Lib.hid hn
  clear hn
  have B0 := BK.new w 76 #[.int .i64 p, .slice A n c]
  obtain ⟨c0, c1, _, _⟩ := B0.two
  have hb0 := (Below.refl w.heap.size w).alloc (Nat.le_refl _) (.cells #[.int .i64 p, .slice A n c] 76)
  have hs0 := hs.call hb0
  by_cases hbig : 1048576 < n
  · go_enter Tryz.func6, Tryz.ntmps6
    go_wp2_with (go_at_call 50; refine (l_szGNo p A n c _ (by omega) hbig).mono ?_; rintro e w1 ⟨rfl, hb1⟩)
    go_ret
    exact ⟨rfl, bel_call hb0 hb1⟩
  have hl : n ≤ 1048576 := by omega
  have hn0 : ¬ (1048576 : Int) - n < 0 := by omega
  have hB0 := fun W (h : Below (w.alloc (.cells #[.int .i64 p, .slice A n c] 76)).heap.size (w.alloc (.cells #[.int .i64 p, .slice A n c] 76)) W) => (B0.below h (by simp)).two
  have hS0 := fun W (h : Below (w.alloc (.cells #[.int .i64 p, .slice A n c] 76)).heap.size (w.alloc (.cells #[.int .i64 p, .slice A n c] 76)) W) => IS.call hs0 h
  have hbw := fun W (h : Below (w.alloc (.cells #[.int .i64 p, .slice A n c] 76)).heap.size (w.alloc (.cells #[.int .i64 p, .slice A n c] 76)) W) => bel_call hb0 h
  have hsz := fun W => l_szGYes p A n c W hl
  have hto := fun W h => l_toGroup p A n c l W HN.out hl h
  obtain ⟨ll, code, hBS, hsm⟩ := bsp_ex p s l
  have h1 := fun A2 W h => (s_BlocksOf p s A2 n n l W HN.out hl h).mono fun e w' h => bsr_fix hBS h
  have h2 := fun A2 W h => (i_BlocksOf p s A2 n n l W hs64 HN.out hl h).mono fun e w' h => bsr_fix hBS h
  have hIS := fun (W : World) B A2 (h : W.ownsRow B 2 1 (.slice A2 n n) n (ints l)) => own_isn h HN.out
  have htt := tot_small hsm.2 ll.length (Nat.le_refl _)
  have heq := fun A2 A3 m c c' W (hm : m = ll.length) h h' => l_eqInt64SS A2 A3 m c c' ll W W.heap.size W.heap.size hm (by omega) (fun k hk => by have := hsm.2 k (by omega); omega) h h'
  have hmk := fun A2 m c vs W base (hm : m = ll.length) h h' => l_markInt64SS A2 m c 1 base vs ll W hm (by rw [hm]; omega) (by omega) h h'
  have hhd := fun A2 m c W B (hm : m = ll.length) h => l_heldInt64SS A2 m c 1 B ll W hm (by rw [hm]; omega) (by omega) h
  generalize tot ll ll.length = tt at *
  have HSM := Lib.hid hsm
  clear hsm htt hs hs0 B0 hBS
  have hk0 : ¬ (1 : Int) + n < 0 := by omega
  go_enter Tryz.func6, Tryz.ntmps6
  go_wp2_with (go_at_call 50; refine (hsz _).mono ?_; rintro e w2 ⟨rfl, hb2⟩; obtain ⟨d0, d1, _, _⟩ := hB0 _ hb2)
  clear c0 c1 hsz
  refine (hto _ (hS0 _ hb2)).mono ?_
  rintro e w3 ⟨g3, rfl, o3, hb3⟩
  generalize w.alloc (.cells #[.int .i64 p, .slice A n c] 76) = w1 at *
  have b3 := bel_call hb2 hb3
  clear hb2 hb3 d0 d1
  go_wp2_with (fail)
  refine (h1 _ _ (hIS _ _ _ o3)).mono ?_
  rintro e w4 ⟨A0, m, c4, vs0, hm, rfl, o0, r0, hb4⟩
  have HM := Lib.hid hm
  have T0 := TB.mk' o0 r0
  have b4 := bel_call b3 hb4
  have z4 := hb4.size
  have b4z := b4.size
  clear hm o0 r0 o3 b3 hb4
  obtain ⟨d0, d1, _, _⟩ := hB0 _ b4
  go_wp2_with (fail)
  refine (hto _ (hS0 _ b4)).mono ?_
  rintro e w5 ⟨g5, rfl, o5, hb5⟩
  have b5 := bel_call b4 hb5
  have T0 := T0.below hb5
  have z5 := hb5.size
  have hg5 := o5.lt g5 rfl
  clear d0 d1 hb5
  go_wp2_with (fail)
  have bx : Below w5.heap.size w5 (w5.alloc (.cells #[.int .i64 p, .slice (some ⟨g5, 0, none⟩) n n] 26)) := (Below.refl _ _).alloc (Nat.le_refl _) _
  have o6 := own_below o5 bx
  refine (h2 _ _ (hIS _ _ _ o6)).mono ?_
  rintro e w7 ⟨A1, m1, c7, vs1, hm1, rfl, o1, r1, hb7⟩
  obtain rfl : m1 = m := hm1.trans HM.out.symm
  have BX := (BK.new w5 26 #[.int .i64 p, .slice (some ⟨g5, 0, none⟩) n n]).below hb7 (by simp)
  have o7 := own_below o6 hb7
  have b7 := bel_call (bel_call b5 bx) hb7
  have T0 := (T0.below bx).below hb7
  have T1 := TB.mk' o1 r1
  have z7 := hb7.size
  rw [World.size_alloc] at z7 T1
  clear hm1 o1 r1 bx o5 o6 hb7 b4 b5
  go_wp2_with (fail)
  refine (heq A1 A0 m1 c7 c4 w7 HM.out T1.ii T0.ii).mono ?_
  rintro e w8 ⟨rfl, q8, rfl⟩
  have hs7 := hS0 _ b7
  obtain ⟨d0, d1, _, _⟩ := hB0 _ b7
  obtain ⟨x0, x1, _, _⟩ := BX.two
  have htoR := hto ((w7.drewN q8).drew) hs7
  go_wp2_with (fail)
  go_region_law
    (go_simp; first
      | (go_at_call 51; refine htoR.mono ?_; rintro e w9 ⟨g9, rfl, o9, hb9⟩; have hb9 := undrew (n := q8) (undrew (n := 1) hb9); have BX9 := BX.below hb9 BX.lt; obtain ⟨y0, y1, _, _⟩ := BX9.two; have o79 := own_below o7 hb9)
      | (go_at_call 53; refine (l_eqGroup p _ _ n n n l _ _ _ HN.out hl (Nat.le_refl _) (Nat.le_refl _) (hIS _ _ _ o79) (hIS _ _ _ o9)).mono ?_; rintro e w10 ⟨rfl, hb10⟩; have BX10 := BX9.below hb10 BX9.lt; obtain ⟨v0, v1, _, _⟩ := BX10.two; have o710 := own_below o79 hb10))
  all_goals
    have b10 := bel_call (bel_call b7 hb9) hb10
    have T0 := (T0.below hb9).below hb10
    have T1 := (T1.below hb9).below hb10
    clear x0 x1 d0 d1 y0 y1 o7 o9 o79 hs7 htoR BX BX9
    go_wp2_with (fail)
    refine (l_markGroup p _ n n _ l _ HN.out hl o710).mono ?_
    rintro e w11 ⟨rfl, _, g11⟩
    have T0 := T0.grown g11 (fun g hg => by simp [Value.ownBlock] at hg; omega)
    have T1 := T1.grown g11 (fun g hg => by simp [Value.ownBlock] at hg; omega)
    have z4' : w1.heap.size ≤ w4.heap.size := by have := b4z; omega
    have b11 := b10.grown g11 b10.size (fun g hg => by simp [Value.ownBlock] at hg; omega)
    clear v0 v1 BX10 o710 g11 hb9 hb10 b10 b7
    go_wp2_with (fail)
    refine (heq A1 A0 m1 c7 c4 w11 HM.out T1.ii T0.ii).mono ?_
    rintro e w12 ⟨rfl, q12, rfl⟩
    go_wp2_with (fail)
    refine (hmk A1 m1 c7 vs1 (w11.drewN q12) _ HM.out (T1.dr q12).own (T1.dr q12).rows).mono ?_
    rintro e w13 ⟨rfl, o13, r13, k13⟩
    have k13 : KB (RB vs1) w11 w13 := k13
    have hrb := T1.rb
    have T0 := T0.kb k13 (fun g hg => by have := hrb g hg; omega)
    have T1 : TB w13 _ _ A1 m1 c7 vs1 (mkL 1 ll) := ⟨o13, r13, T1.b1, T1.b2⟩
    have b13 := below_of_kb b11 k13 (fun g hg => by have := hrb g hg; omega) b11.size
    have hk1 : ¬ (((1 + tt : Nat)) : Int) < 0 := by omega
    have hk2 : ¬ ((1 : Int) + tt < 0) := by omega
    clear o13 r13 k13 b11
    go_wp2_with (fail)
    refine (hhd A1 m1 c7 w13 _ HM.out T1.ii).mono ?_
    rintro e w14 ⟨rfl, q14, rfl⟩
    obtain ⟨d0, d1, _, _⟩ := hB0 _ b13
    go_wp2_with (fail)
    refine (hto (w13.drewN q14) (hS0 _ (below_drewN b13 q14))).mono ?_
    rintro e w15 ⟨g15, rfl, o15, hb15⟩
    have hb15 := undrew hb15
    have b15 := bel_call b13 hb15
    have T0 := T0.below hb15
    have T1 := T1.below hb15
    go_wp2_with (fail)
    refine (h2 _ _ (hIS _ _ _ o15)).mono ?_
    rintro e w16 ⟨A2, m2, c16, vs2, hm2, rfl, o2, r2, hb16⟩
    obtain rfl : m2 = m1 := hm2.trans HM.out.symm
    have T2 := TB.mk' o2 r2
    have b16 := bel_call b15 hb16
    have T0 := T0.below hb16
    have T1 := T1.below hb16
    clear hm2 o2 r2 b13 b15 hb15 hb16 d0 d1
    go_wp2_with (fail)
    refine (heq A2 A0 m2 c16 c4 w16 HM.out T2.ii T0.ii).mono ?_
    rintro e w17 ⟨rfl, q17, rfl⟩
    go_wp2_with (fail)
    refine (hhd A1 m2 c7 (w16.drewN q17) _ HM.out (T1.dr q17).ii).mono ?_
    rintro e w18 ⟨rfl, q18, rfl⟩
    go_wp2_with (fail)
    go_ret
    exact ⟨rfl, below_drewN (hbw _ b16) _⟩
end Go.Proofs.YtglijcdnnaekkaaGreat

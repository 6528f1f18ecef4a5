/- BlockWith: the law. -/
import Derived.Test.YtkiglhaeiomohaaA209
namespace Go.Proofs.Ytkiglhaeiomohaa
set_option linter.unusedVariables false
set_option linter.unusedSimpArgs false
open Go.RowKit

theorem bwp_small {p : Int} {l : List Int} {a b : Int} {out : List Int} {code : Int} (h : BWP p l a b out code) : out.length ≤ 6 := by
  rcases h with ⟨_, rfl, _⟩ | ⟨n, _, _, _, _, rfl, _⟩ | ⟨n, x, y, c, rfl, _, _, _, _, hg, _, _, _, _, _, rfl, _⟩
  · simp
  · simp
  · obtain ⟨n', e, h1, h2, _⟩ := grpB_t hg
    rw [tJ_len]
    unfold clsN
    refine Nat.le_trans (List.length_filter_le _ _) ?_
    simp; omega
set_option maxRecDepth 10000 in
set_option maxHeartbeats 4000000 in
theorem law_BlockWith (p : Int) (A : Option Addr) (n c : Nat) (l : List Int) (a b : Int) (w : World) (hn : n = l.length) (hc : n ≤ c) (hm : c ≤ maxLen) (hs : IS w w.heap.size A l) :
    Calls Try.prog 5 #[.agg #[.int .i64 p, .slice A n c], .int .i64 a, .int .i64 b] w (M (.bool true) w) := by
  have HN := Lib.hid hn
  clear hn
  have B0 := BK.new w 24 #[.int .i64 p, .slice A n c]
  obtain ⟨c0, c1, _, _⟩ := B0.two
  have hb0 := (Below.refl w.heap.size w).alloc (Nat.le_refl _) (.cells #[.int .i64 p, .slice A n c] 24)
  have hs0 := hs.call hb0
  by_cases hbig : 1048576 < n
  · go_enter Try.func5, Try.ntmps5
    go_wp2_with (go_at_call 6; refine (l_szGNo p A n c _ (by omega) hbig).mono ?_; rintro e w1 ⟨rfl, hb1⟩)
    go_ret
    exact ⟨rfl, bel_call hb0 hb1⟩
  have hl : n ≤ 1048576 := by omega
  have hn0 : ¬ (1048576 : Int) - n < 0 := by omega
  have hB0 := fun W (h : Below (w.alloc (.cells #[.int .i64 p, .slice A n c] 24)).heap.size (w.alloc (.cells #[.int .i64 p, .slice A n c] 24)) W) => (B0.below h (by simp)).two
  have hS0 := fun W (h : Below (w.alloc (.cells #[.int .i64 p, .slice A n c] 24)).heap.size (w.alloc (.cells #[.int .i64 p, .slice A n c] 24)) W) => IS.call hs0 h
  have hbw := fun W (h : Below (w.alloc (.cells #[.int .i64 p, .slice A n c] 24)).heap.size (w.alloc (.cells #[.int .i64 p, .slice A n c] 24)) W) => bel_call hb0 h
  have hsz := fun W => l_szGYes p A n c W hl
  have hto := fun W h => l_toGroup p A n c l W HN.out hl h
  have h1 := fun A2 W h => s_BlockWith p a b A2 n n l W HN.out hl h
  have h2 := fun A2 W h out code hb => i_BlockWith p a b A2 n n l out code W HN.out hl h hb
  have hIS := fun (W : World) B A2 (h : W.ownsRow B 2 1 (.slice A2 n n) n (ints l)) => own_isn h HN.out
  clear hs hs0 B0
  have hk0 : ¬ (1 : Int) + n < 0 := by omega
  go_enter Try.func5, Try.ntmps5
  go_wp2_with (go_at_call 6; refine (hsz _).mono ?_; rintro e w2 ⟨rfl, hb2⟩; obtain ⟨d0, d1, _, _⟩ := hB0 _ hb2)
  clear c0 c1 hsz
  refine (hto _ (hS0 _ hb2)).mono ?_
  rintro e w3 ⟨g3, rfl, o3, hb3⟩
  generalize w.alloc (.cells #[.int .i64 p, .slice A n c] 24) = w1 at *
  have b3 := bel_call hb2 hb3
  clear hb2 hb3 d0 d1
  go_wp2_with (fail)
  refine (h1 _ _ (hIS _ _ _ o3)).mono ?_
  rintro e w4 ⟨out, code, hbwp, A0, c4, rfl, o0, hb4⟩
  have hsm := bwp_small hbwp
  have h2 := fun A2 W h => h2 A2 W h out code hbwp
  unfold RVC at h2
  generalize hM : out.length = m at *
  have HM := Lib.hid hM.symm
  have T0 := OB.mk' o0
  have b4 := bel_call b3 hb4
  have z4 := hb4.size
  have b4z := b4.size
  clear o0 o3 b3 hb4 hM hbwp h1
  obtain ⟨d0, d1, _, _⟩ := hB0 _ b4
  go_wp2_with (fail)
  refine (hto _ (hS0 _ b4)).mono ?_
  rintro e w5 ⟨g5, rfl, o5, hb5⟩
  have b5 := bel_call b4 hb5
  have T0 := T0.below hb5
  have z5 := hb5.size
  have hg5 := o5.lt g5 rfl
  clear d0 d1 hb5
  go_wp2_with (fail)
  have bx : Below w5.heap.size w5 (w5.alloc (.cells #[.int .i64 p, .slice (some ⟨g5, 0, none⟩) n n] 28)) := (Below.refl _ _).alloc (Nat.le_refl _) _
  have o6 := own_below o5 bx
  refine (h2 _ _ (hIS _ _ _ o6)).mono ?_
  rintro e w7 ⟨A1, c7, rfl, o1, hb7⟩
  have BX := (BK.new w5 28 #[.int .i64 p, .slice (some ⟨g5, 0, none⟩) n n]).below hb7 (by simp)
  have o7 := own_below o6 hb7
  have b7 := bel_call (bel_call b5 bx) hb7
  have T0 := (T0.below bx).below hb7
  have T1 := OB.mk' o1
  have z7 := hb7.size
  rw [World.size_alloc] at z7 T1
  clear o1 bx o5 o6 hb7 b4 b5
  go_wp2_with (fail)
  refine (l_eqInt64S A1 A0 m c7 m c4 out w7 _ _ HM.out HM.out (by omega) (T1.is HM.out) (T0.is HM.out)).mono ?_
  rintro e w8 ⟨rfl, q8, rfl⟩
  have hs7 := hS0 _ b7
  obtain ⟨d0, d1, _, _⟩ := hB0 _ b7
  obtain ⟨x0, x1, _, _⟩ := BX.two
  have htoR := hto ((w7.drewN q8).drew) hs7
  go_wp2_with (fail)
  go_region_law
    (go_simp; first
      | (go_at_call 8; refine htoR.mono ?_; rintro e w9 ⟨g9, rfl, o9, hb9⟩; have hb9 := undrew (n := q8) (undrew (n := 1) hb9); have BX9 := BX.below hb9 BX.lt; obtain ⟨y0, y1, _, _⟩ := BX9.two; have o79 := own_below o7 hb9)
      | (go_at_call 10; refine (l_eqGroup p _ _ n n n l _ _ _ HN.out hl (Nat.le_refl _) (Nat.le_refl _) (hIS _ _ _ o79) (hIS _ _ _ o9)).mono ?_; rintro e w10 ⟨rfl, hb10⟩; have BX10 := BX9.below hb10 BX9.lt; obtain ⟨v0, v1, _, _⟩ := BX10.two; have o710 := own_below o79 hb10))
  all_goals
    have b10 := bel_call (bel_call b7 hb9) hb10
    have T0 := (T0.below hb9).below hb10
    have T1 := (T1.below hb9).below hb10
    clear x0 x1 d0 d1 y0 y1 o7 o9 o79 hs7 htoR BX BX9
    go_wp2_with (fail)
    refine (l_markGroup p _ n n _ l _ HN.out hl o710).mono ?_
    rintro e w11 ⟨rfl, _, g11⟩
    have T0 := T0.grown g11 (fun g hg => by simp [Value.ownBlock] at hg; omega)
    have T1 := T1.grown g11 (fun g hg => by simp [Value.ownBlock] at hg; omega)
    have z4' : w1.heap.size ≤ w4.heap.size := by have := b4z; omega
    have b11 := b10.grown g11 b10.size (fun g hg => by simp [Value.ownBlock] at hg; omega)
    clear v0 v1 BX10 o710 g11 hb9 hb10 b10 b7
    go_wp2_with (fail)
    refine (l_eqInt64S A1 A0 m c7 m c4 out w11 _ _ HM.out HM.out (by omega) (T1.is HM.out) (T0.is HM.out)).mono ?_
    rintro e w12 ⟨rfl, q12, rfl⟩
    go_wp2_with (fail)
    refine (l_mark1 A1 m c7 _ out (w11.drewN q12) HM.out (by omega) (T1.dr q12).own).mono ?_
    rintro e w13 ⟨rfl, o13, g13⟩
    have g13 := undrewG g13
    have hrb : ∀ g, (Value.slice A1 m c7).ownBlock = some g → w5.heap.size + 1 ≤ g ∧ g < w7.heap.size := fun g hg => ⟨(T1.own.lt g hg).1, T1.lt g hg⟩
    have T0 := T0.grown g13 (fun g hg => by have := hrb g hg; omega)
    have T1 : OB w13 (w5.heap.size + 1) w7.heap.size A1 m c7 (marks 1 m) := ⟨o13, fun g hg => (hrb g hg).2⟩
    have b13 := b11.grown g13 b11.size (fun g hg => by have := hrb g hg; omega)
    have hk1 : ¬ ((1 : Int) + m < 0) := by omega
    clear o13 g13 b11
    go_wp2_with (fail)
    refine (l_held1 A1 m c7 _ w13 (by omega) (T1.is (by rw [marks_length]))).mono ?_
    rintro e w14 ⟨rfl, q14, rfl⟩
    obtain ⟨d0, d1, _, _⟩ := hB0 _ b13
    go_wp2_with (fail)
    refine (hto (w13.drewN q14) (hS0 _ (below_drewN b13 q14))).mono ?_
    rintro e w15 ⟨g15, rfl, o15, hb15⟩
    have hb15 := undrew hb15
    have b15 := bel_call b13 hb15
    have T0 := T0.below hb15
    have T1 := T1.below hb15
    go_wp2_with (fail)
    refine (h2 _ _ (hIS _ _ _ o15)).mono ?_
    rintro e w16 ⟨A2, c16, rfl, o2, hb16⟩
    have T2 := OB.mk' o2
    have b16 := bel_call b15 hb16
    have T0 := T0.below hb16
    have T1 := T1.below hb16
    clear o2 b13 b15 hb15 hb16 d0 d1
    go_wp2_with (fail)
    refine (l_eqInt64S A2 A0 m c16 m c4 out w16 _ _ HM.out HM.out (by omega) (T2.is HM.out) (T0.is HM.out)).mono ?_
    rintro e w17 ⟨rfl, q17, rfl⟩
    go_wp2_with (fail)
    refine (l_held1 A1 m c7 _ (w16.drewN q17) (by omega) ((T1.dr q17).is (by rw [marks_length]))).mono ?_
    rintro e w18 ⟨rfl, q18, rfl⟩
    go_wp2_with (fail)
    go_ret
    refine ⟨rfl, ?_⟩
    repeat (first | exact hbw _ b16 | refine below_drewN ?_ _)
end Go.Proofs.Ytkiglhaeiomohaa

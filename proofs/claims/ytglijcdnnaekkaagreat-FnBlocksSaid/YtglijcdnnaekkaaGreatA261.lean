/- Several parts of the proof in one text; each part says what it shows. Nothing is assumed. -/
import Derived.Test.YtglijcdnnaekkaaGreatA259
import Derived.Test.YtglijcdnnaekkaaGreatA177
import Derived.Test.YtglijcdnnaekkaaGreatA258
/- All images of the first block of a size: the program's side. -/
namespace Go.Proofs.YtglijcdnnaekkaaGreat
set_option linter.unusedVariables false
set_option linter.unusedSimpArgs false
open Go.RowKit

set_option maxRecDepth 20000 in
set_option maxHeartbeats 2000000 in
theorem i_BlocksOfG (p s : Int) (A : Option Addr) (L c : Nat) (l : List Int) (w : World) (h64 : grpB p l = true → -9223372036854775808 ≤ s ∧ s ≤ 9223372036854775807) (hL : L = l.length) (hl : L ≤ 1048576) (hs : IS w w.heap.size A l) :
    Calls Tryz.prog 9 #[.agg #[.int .i64 p, .slice A L c], .int .i64 s] w (BSR p l s w) := by
  have B0 := BK.new w 26 #[.int .i64 p, .slice A L c]
  obtain ⟨c0, c1, _, _⟩ := B0.two
  have hb0 := (Below.refl w.heap.size w).alloc (Nat.le_refl _) (.cells #[.int .i64 p, .slice A L c] 26)
  have hs0 := hs.call hb0
  have hB0 := fun W (h : Below (w.alloc (.cells #[.int .i64 p, .slice A L c] 26)).heap.size (w.alloc (.cells #[.int .i64 p, .slice A L c] 26)) W) => (B0.below h (by simp)).two
  have hmv := i_IsGroup p A L c l _ hL hl hs0
  cases hg : grpB p l
  · clear h64
    rw [hg] at hmv
    have HP := Lib.hid (fun w' => bsr_none (p := p) (s := s) (l := l) (w := w) (w' := w') (.inl ⟨hg, rfl, rfl⟩))
    clear hg hL hs hs0 B0 hB0
    go_enter Tryz.func9, Tryz.ntmps9
    go_wp2_with (go_at_call 60; refine hmv.mono ?_; rintro e w2 ⟨rfl, hb2⟩)
    go_ret2
    exact HP.out _ (bel_call hb0 hb2)
  · have hs64 := h64 hg
    clear h64
    rw [hg] at hmv
    obtain ⟨n, rfl, h1, h2, h3, h4, hk⟩ := grpB_t hg
    by_cases hbad : ∃ k : Nat, s = k ∧ 1 ≤ k ∧ k ≤ n ∧ n % k = 0
    · obtain ⟨k, rfl, k1, k2, k3⟩ := hbad
      have htr := fun W h => i_trans n A L c l W h1 h2 hL (by omega) (by omega) hk h
      have hbk := fun W h => i_blocks n k A L c l W h1 h2 hL (by omega) (by omega) hk k1 (by omega) h
      have hrem : Int.tmod (n : Int) (k : Int) = 0 := by rw [Int.tmod_eq_emod_of_nonneg (by omega)]; omega
      have hk1 : ¬ (k : Int) < 1 := by omega
      have hk0 : ¬ (k : Int) = 0 := by omega
      have hk0' : 0 < k := by omega
      by_cases ht : (orL n l 0).length = n
      · rw [decide_eq_true ht] at htr
        by_cases hbf : bkF n l k = none
        · have hcall : ∀ W, IS W W.heap.size A l → Calls Tryz.prog 62 #[.agg #[.int .i64 n, .slice A L c], .int .i64 k] W (fun e w' => e = .returned (.slice none 0 0) ∧ Below W.heap.size W w') := fun W h => (hbk W h).mono fun e w' h => by
            rcases h with ⟨_, h1, h2⟩ | ⟨pts, _, _, _, _, _, hsm, _⟩
            · exact ⟨h1, h2⟩
            · rw [hbf] at hsm; cases hsm
          have HP := Lib.hid (fun w' => bsr_none (p := n) (s := k) (l := l) (w := w) (w' := w') (.inr ⟨n, rfl, hg, .inr ⟨k, rfl, k1, k2, k3, .inr ⟨ht, .inl ⟨hbf, rfl, rfl⟩⟩⟩⟩))
          have hq0 : ∀ W : World, (binOp .eql 29 (.slice none 0 0) (.slice none 0 0)).run Tryz.prog W = .ok (.bool true) W := fun W => Lib.run_eql_slice_nil W _ _ none 0 0 0 0 Tryz.underlying29
          clear hbf hbk hg ht k3 hk hL hs B0
          go_enter Tryz.func9, Tryz.ntmps9
          go_wp2_with (first
            | (go_at_call 60; refine hmv.mono ?_; rintro e w2 ⟨rfl, hb2⟩; obtain ⟨d0, d1, _, _⟩ := hB0 _ hb2)
            | (go_at_call 61; refine (htr _ (hs0.call hb2)).mono ?_; rintro e w3 ⟨rfl, hb3⟩; have b3 := bel_call hb2 hb3; obtain ⟨e0, e1, _, _⟩ := hB0 _ b3)
            | (go_at_call 62; refine (hcall _ (hs0.call b3)).mono ?_; rintro e w4 ⟨rfl, hb4⟩))
          go_ret2
          exact HP.out _ (bel_call hb0 (bel_call b3 hb4))
        · have hcall : ∀ W, w.heap.size ≤ W.heap.size → IS W W.heap.size A l → Calls Tryz.prog 62 #[.agg #[.int .i64 n, .slice A L c], .int .i64 k] W (fun e w' => ∃ g m c4 vs out, e = .returned (.slice (some ⟨g, 0, none⟩) m c4) ∧ BSP n l k out 0 ∧ m = out.length ∧ w'.ownsRow w.heap.size 24 1 (.slice (some ⟨g, 0, none⟩) m c4) m vs ∧ RowsO w' w.heap.size vs out ∧ Below W.heap.size W w') := fun W hz h => (hbk W h).mono fun e w' h => by
            rcases h with ⟨h0, _, _⟩ | ⟨pts, out, g, m, c4, vs, hsm, q1, q2, q3, q4, q5, q6, q7⟩
            · exact absurd h0 hbf
            · exact ⟨g, m, c4, vs, out, q4, .inr ⟨n, rfl, hg, .inr ⟨k, rfl, k1, k2, k3, .inr ⟨ht, .inr ⟨pts, hsm, q1, rfl⟩⟩⟩⟩, q3, own_mono q5 hz, q6.mono hz, q7⟩
          have hq1 : ∀ (W : World) (g m c4 : Nat), (binOp .eql 29 (.slice (some ⟨g, 0, none⟩) m c4) (.slice none 0 0)).run Tryz.prog W = .ok (.bool false) W := fun W g m c4 => Lib.run_eql_slice_nil W _ _ (some ⟨g, 0, none⟩) m c4 0 0 Tryz.underlying29
          clear hbf hbk hg ht k3 hk hL hs B0
          go_enter Tryz.func9, Tryz.ntmps9
          go_wp2_with (first
            | (go_at_call 60; refine hmv.mono ?_; rintro e w2 ⟨rfl, hb2⟩; obtain ⟨d0, d1, _, _⟩ := hB0 _ hb2)
            | (go_at_call 61; refine (htr _ (hs0.call hb2)).mono ?_; rintro e w3 ⟨rfl, hb3⟩; have b3 := bel_call hb2 hb3; obtain ⟨e0, e1, _, _⟩ := hB0 _ b3)
            | (go_at_call 62; refine (hcall _ (bel_call hb0 b3).size (hs0.call b3)).mono ?_; rintro e w4 ⟨g, m, c4, vs, out, rfl, x1, x2, x3, x4, hb4⟩; have X1 := Lib.hid x1; have X2 := Lib.hid x2; clear x1 x2))
          go_ret2
          exact ⟨_, m, c4, vs, out, 0, rfl, X1.out, X2.out, x3, x4, bel_call hb0 (bel_call b3 hb4)⟩
      · rw [decide_eq_false ht] at htr
        have HP := Lib.hid (fun w' => bsr_none (p := n) (s := k) (l := l) (w := w) (w' := w') (.inr ⟨n, rfl, hg, .inr ⟨k, rfl, k1, k2, k3, .inl ⟨ht, rfl, rfl⟩⟩⟩))
        clear hbk hg ht k3 hk hL hs B0
        go_enter Tryz.func9, Tryz.ntmps9
        go_wp2_with (first
          | (go_at_call 60; refine hmv.mono ?_; rintro e w2 ⟨rfl, hb2⟩; obtain ⟨d0, d1, _, _⟩ := hB0 _ hb2)
          | (go_at_call 61; refine (htr _ (hs0.call hb2)).mono ?_; rintro e w3 ⟨rfl, hb3⟩; have b3 := bel_call hb2 hb3))
        go_ret2
        exact HP.out _ (bel_call hb0 b3)
    · have HP := Lib.hid (fun w' => bsr_none (p := n) (s := s) (l := l) (w := w) (w' := w') (.inr ⟨n, rfl, hg, .inl ⟨hbad, rfl, rfl⟩⟩))
      by_cases hs1 : s < 1
      · clear hbad hg hk hL hs hs0 B0
        go_enter Tryz.func9, Tryz.ntmps9
        go_wp2_with (go_at_call 60; refine hmv.mono ?_; rintro e w2 ⟨rfl, hb2⟩; obtain ⟨d0, d1, _, _⟩ := hB0 _ hb2)
        go_ret2
        exact HP.out _ (bel_call hb0 hb2)
      · obtain ⟨k, rfl⟩ := Int.eq_ofNat_of_zero_le (show 0 ≤ s by omega)
        have hrem : Int.tmod (n : Int) (k : Int) = ((n % k : Nat) : Int) := by rw [Int.tmod_eq_emod_of_nonneg (by omega)]; simp
        have hne : n % k ≠ 0 := fun e => hbad ⟨k, rfl, by omega, Nat.le_of_dvd (by omega) (Nat.dvd_of_mod_eq_zero e), e⟩
        have hk0' : 0 < k := by omega
        generalize n % k = R at *
        have hz2 : ((R : Int) != 0) = true := by rw [bne_iff_ne]; omega
        clear hbad hg hk hL hs hs0 B0 hne
        go_enter Tryz.func9, Tryz.ntmps9
        go_wp2_with (go_at_call 60; refine hmv.mono ?_; rintro e w2 ⟨rfl, hb2⟩; obtain ⟨d0, d1, _, _⟩ := hB0 _ hb2)
        go_ret2
        exact HP.out _ (bel_call hb0 hb2)
theorem i_BlocksOf (p s : Int) (A : Option Addr) (L c : Nat) (l : List Int) (w : World) (hs64 : -9223372036854775808 ≤ s ∧ s ≤ 9223372036854775807) (hL : L = l.length) (hl : L ≤ 1048576) (hs : IS w w.heap.size A l) :
    Calls Tryz.prog 9 #[.agg #[.int .i64 p, .slice A L c], .int .i64 s] w (BSR p l s w) := i_BlocksOfG p s A L c l w (fun _ => hs64) hL hl hs
end Go.Proofs.YtglijcdnnaekkaaGreat
/- All images of the first block of a size: the reference's side. -/
namespace Go.Proofs.YtglijcdnnaekkaaGreat
set_option linter.unusedVariables false
set_option linter.unusedSimpArgs false
open Go.RowKit

theorem one_isn (w : World) (a : Int) : IS (w.alloc (.cells #[.int .i64 a] 2)) (w.alloc (.cells #[.int .i64 a] 2)).heap.size (some ⟨w.heap.size, 0, none⟩) [a] :=
  own_isn (World.ownsRow_lit (base := w.heap.size) w #[.int .i64 a] 1 (Nat.le_refl _) (by simp [maxLen]) rfl) rfl
theorem inB_yes {s a b : Int} (h1 : a ≤ s) (h2 : s ≤ b) : inB s a b = true := by
  cases h : inB s a b
  · unfold inB at h; simp at h; omega
  · rfl
set_option maxRecDepth 20000 in
set_option maxHeartbeats 2000000 in
theorem s_BlocksOf (p s : Int) (A : Option Addr) (L c : Nat) (l : List Int) (w : World) (hL : L = l.length) (hl : L ≤ 1048576) (hs : IS w w.heap.size A l) :
    Calls Tryz.prog 10 #[.agg #[.int .i64 p, .slice A L c], .int .i64 s] w (BSR p l s w) := by
  have B0 := BK.new w 26 #[.int .i64 p, .slice A L c]
  obtain ⟨c0, c1, _, _⟩ := B0.two
  have hb0 := (Below.refl w.heap.size w).alloc (Nat.le_refl _) (.cells #[.int .i64 p, .slice A L c] 26)
  have hs0 := hs.call hb0
  have hB0 := fun W (h : Below (w.alloc (.cells #[.int .i64 p, .slice A L c] 26)).heap.size (w.alloc (.cells #[.int .i64 p, .slice A L c] 26)) W) => (B0.below h (by simp)).two
  have hmv := s_IsGroup p A L c l _ hL hl hs0
  cases hg : grpB p l
  · rw [hg] at hmv
    have HP := Lib.hid (fun w' => bsr_none (p := p) (s := s) (l := l) (w := w) (w' := w') (.inl ⟨hg, rfl, rfl⟩))
    clear hg hL hs hs0 B0 hB0
    go_enter Tryz.func10, Tryz.ntmps10
    go_wp2_with (go_at_call 63; refine hmv.mono ?_; rintro e w2 ⟨rfl, hb2⟩)
    go_ret2
    exact HP.out _ (bel_call hb0 hb2)
  · rw [hg] at hmv
    obtain ⟨n, rfl, h1, h2, h3, h4, hk⟩ := grpB_t hg
    have hin := fun W => s_l01In s 1 (n : Int) W
    by_cases hbad : ∃ k : Nat, s = k ∧ 1 ≤ k ∧ k ≤ n ∧ n % k = 0
    · obtain ⟨k, rfl, k1, k2, k3⟩ := hbad
      rw [inB_yes (by omega) (by omega)] at hin
      have htr := fun W h => s_trans n A L c l W h1 h2 hL (by omega) (by omega) hk h
      have hrem : Int.tmod (n : Int) (k : Int) = 0 := by rw [Int.tmod_eq_emod_of_nonneg (by omega)]; omega
      have hk0 : ¬ (k : Int) = 0 := by omega
      have hk0' : 0 < k := by omega
      by_cases ht : (orL n l 0).length = n
      · rw [decide_eq_true ht] at htr
        have hG := pg_of hg
        have hta := orL_all h1 hk ht
        have hfd := fun Ap W h h' => s_find n k A L c l h1 h2 hL (by omega) (by omega) hk hG hta k2 (k - 1) [0] 0 1 1 Ap W rfl (by omega) (by omega) rfl (by simp) (by simp) rfl (by omega) h h'
        have htop := fx_top (l := l) k1 k2
        have htj := fun W => one_isn W 0
        rcases hfx : fx (blkB (memL n l)) n (k - 1) 1 [0] with _ | B
        · rw [hfx] at htop
          have hO : fxL (blkB (memL n l)) n (k - 1) (0 + 1) [0] = [] := by unfold fxL; rw [hfx]; rfl
          rw [hO] at hfd
          have HP := Lib.hid (fun w' => bsr_none (p := n) (s := k) (l := l) (w := w) (w' := w') (.inr ⟨n, rfl, hg, .inr ⟨k, rfl, k1, k2, k3, .inr ⟨ht, .inl ⟨htop, rfl, rfl⟩⟩⟩⟩))
          clear htop hO hfx hg ht k3 hk hL hs B0 hG hta
          go_enter Tryz.func10, Tryz.ntmps10
          go_wp2_with (first
            | (go_at_call 63; refine hmv.mono ?_; rintro e w2 ⟨rfl, hb2⟩; obtain ⟨d0, d1, _, _⟩ := hB0 _ hb2)
            | (go_at_call 64; refine (hin _).mono ?_; rintro e w9 ⟨rfl, q9, rfl⟩)
            | (go_at_call 65; refine (htr _ ((hs0.call hb2).drewN q9)).mono ?_; rintro e w3 ⟨rfl, hb3⟩; have b3 := bel_call (below_drewN hb2 q9) hb3; obtain ⟨e0, e1, _, _⟩ := hB0 _ b3; have hbt := (Below.refl w3.heap.size w3).alloc (Nat.le_refl _) (.cells #[.int .i64 0] 2))
            | (go_at_call 66; refine (hfd _ _ ((hs0.call b3).call hbt) (htj w3)).mono ?_; rintro e w4 ⟨v4, rfl, o4, hb4⟩; obtain ⟨A4, c4, rfl, _⟩ := own_slice' o4))
          go_ret2
          exact HP.out _ (bel_call hb0 (bel_call (bel_call b3 hbt) hb4))
        · rw [hfx] at htop
          have hO : fxL (blkB (memL n l)) n (k - 1) (0 + 1) [0] = B := by unfold fxL; rw [hfx]; rfl
          rw [hO] at hfd
          obtain ⟨t, hBt, t1, t2, t3, t4⟩ := fx_some (by omega) hfx
          have hBl : 0 < B.length := by rw [hBt]; simp
          have hBk : B.length = k := by rw [hBt]; simp; omega
          have hr : B.Pairwise (· < ·) := by
            rw [hBt]
            exact List.pairwise_append.2 ⟨by simp, t2, fun a ha b hb => by rw [List.mem_singleton] at ha; have := (t3 b hb).1; omega⟩
          have hnB : ∀ x ∈ B, x < n := fun x hx => by
            rw [hBt] at hx
            rcases List.mem_append.1 hx with hx | hx
            · rw [List.mem_singleton] at hx; omega
            · exact (t3 x hx).2
          have hout := imS_bkO hG hr hnB ((blk_iff hG hr hnB).1 t4) hBl
          rw [List.length_map, memL_len, ← hL] at hout
          have him := fun A' c' W h h' => s_images n A A' L c B.length c' l B W h1 h2 hL (by omega) hk hG rfl hBl (by omega) hr hnB h h'
          rw [tJ_len] at hfd
          have hlB := tJ_len B
          have HX := Lib.hid (show BSP n l k (imS ((memL n l).map fun a => imgL a (tJ B)) L) 0 from .inr ⟨n, rfl, hg, .inr ⟨k, rfl, k1, k2, k3, .inr ⟨ht, .inr ⟨_, htop, hout, rfl⟩⟩⟩⟩)
          generalize imS ((memL n l).map fun a => imgL a (tJ B)) L = out at *
          have HLB := Lib.hid hlB
          generalize tJ B = Bt at *
          generalize B.length = bl at *
          clear htop hO hfx hg ht k3 hk hL hs B0 hG hta hBt t1 t2 t3 t4 hr hnB hout hlB hBk
          go_enter Tryz.func10, Tryz.ntmps10
          go_wp2_with (first
            | (go_at_call 63; refine hmv.mono ?_; rintro e w2 ⟨rfl, hb2⟩; obtain ⟨d0, d1, _, _⟩ := hB0 _ hb2)
            | (go_at_call 64; refine (hin _).mono ?_; rintro e w9 ⟨rfl, q9, rfl⟩)
            | (go_at_call 65; refine (htr _ ((hs0.call hb2).drewN q9)).mono ?_; rintro e w3 ⟨rfl, hb3⟩; have b3 := bel_call (below_drewN hb2 q9) hb3; obtain ⟨e0, e1, _, _⟩ := hB0 _ b3; have hbt := (Below.refl w3.heap.size w3).alloc (Nat.le_refl _) (.cells #[.int .i64 0] 2))
            | (go_at_call 66; refine (hfd _ _ ((hs0.call b3).call hbt) (htj w3)).mono ?_; rintro e w4 ⟨v4, rfl, o4, hb4⟩; obtain ⟨A4, c4, rfl, _⟩ := own_slice' o4; have b4 := bel_call (bel_call b3 hbt) hb4; obtain ⟨f0, f1, _, _⟩ := hB0 _ b4)
            | (go_at_call 67; refine (him _ _ _ (hs0.call b4) (own_isn o4 HLB.out.symm)).mono ?_; rintro e w5 ⟨A5, m5, c5, vs5, hm5, rfl, o5, r5, hb5⟩; have HM5 := Lib.hid hm5; clear hm5))
          go_ret2
          exact ⟨_, m5, c5, vs5, out, 0, rfl, HX.out, HM5.out, own_mono o5 (bel_call hb0 b4).size, r5.mono (bel_call hb0 b4).size, bel_call hb0 (bel_call b4 hb5)⟩
      · rw [decide_eq_false ht] at htr
        have HP := Lib.hid (fun w' => bsr_none (p := n) (s := k) (l := l) (w := w) (w' := w') (.inr ⟨n, rfl, hg, .inr ⟨k, rfl, k1, k2, k3, .inl ⟨ht, rfl, rfl⟩⟩⟩))
        clear hg ht k3 hk hL hs B0
        go_enter Tryz.func10, Tryz.ntmps10
        go_wp2_with (first
          | (go_at_call 63; refine hmv.mono ?_; rintro e w2 ⟨rfl, hb2⟩; obtain ⟨d0, d1, _, _⟩ := hB0 _ hb2)
          | (go_at_call 64; refine (hin _).mono ?_; rintro e w9 ⟨rfl, q9, rfl⟩)
          | (go_at_call 65; refine (htr _ ((hs0.call hb2).drewN q9)).mono ?_; rintro e w3 ⟨rfl, hb3⟩; have b3 := bel_call (below_drewN hb2 q9) hb3))
        go_ret2
        exact HP.out _ (bel_call hb0 b3)
    · have HP := Lib.hid (fun w' => bsr_none (p := n) (s := s) (l := l) (w := w) (w' := w') (.inr ⟨n, rfl, hg, .inl ⟨hbad, rfl, rfl⟩⟩))
      cases hib : inB s 1 (n : Int)
      · rw [hib] at hin
        clear hbad hg hk hL hs hs0 B0 hib
        go_enter Tryz.func10, Tryz.ntmps10
        go_wp2_with (first
          | (go_at_call 63; refine hmv.mono ?_; rintro e w2 ⟨rfl, hb2⟩; obtain ⟨d0, d1, _, _⟩ := hB0 _ hb2)
          | (go_at_call 64; refine (hin _).mono ?_; rintro e w9 ⟨rfl, q9, rfl⟩))
        go_ret2
        exact HP.out _ (below_drewN (bel_call hb0 hb2) q9)
      · rw [hib] at hin
        obtain ⟨b1, b2⟩ := inB_true hib
        obtain ⟨k, rfl⟩ := Int.eq_ofNat_of_zero_le (show 0 ≤ s by omega)
        have hrem : Int.tmod (n : Int) (k : Int) = ((n % k : Nat) : Int) := by rw [Int.tmod_eq_emod_of_nonneg (by omega)]; simp
        have hne : n % k ≠ 0 := fun e => hbad ⟨k, rfl, by omega, by omega, e⟩
        have hk0' : 0 < k := by omega
        generalize n % k = R at *
        have hz2 : ((R : Int) != 0) = true := by rw [bne_iff_ne]; omega
        clear hbad hg hk hL hs hs0 B0 hne hib
        go_enter Tryz.func10, Tryz.ntmps10
        go_wp2_with (first
          | (go_at_call 63; refine hmv.mono ?_; rintro e w2 ⟨rfl, hb2⟩; obtain ⟨d0, d1, _, _⟩ := hB0 _ hb2)
          | (go_at_call 64; refine (hin _).mono ?_; rintro e w9 ⟨rfl, q9, rfl⟩))
        go_ret2
        exact HP.out _ (below_drewN (bel_call hb0 hb2) q9)
theorem bsp_ex (p s : Int) (l : List Int) : ∃ out code, BSP p l s out code ∧ out.length ≤ 720 ∧ ∀ k, k < out.length → (gl out k).length ≤ 6 := by
  have he : ∀ code, BSP p l s [] code → ∃ out code, BSP p l s out code ∧ out.length ≤ 720 ∧ ∀ k, k < out.length → (gl out k).length ≤ 6 := fun code h => ⟨[], code, h, by simp, fun k hk => by simp at hk⟩
  cases hg : grpB p l
  · exact he 1 (.inl ⟨hg, rfl, rfl⟩)
  · obtain ⟨n, rfl, h1, h2, h3, h4, hk⟩ := grpB_t hg
    by_cases hbad : ∃ k : Nat, s = k ∧ 1 ≤ k ∧ k ≤ n ∧ n % k = 0
    · obtain ⟨k, rfl, k1, k2, k3⟩ := hbad
      by_cases ht : (orL n l 0).length = n
      · rcases hb : bkF n l k with _ | pts
        · exact he 4 (.inr ⟨n, rfl, hg, .inr ⟨k, rfl, k1, k2, k3, .inr ⟨ht, .inl ⟨hb, rfl, rfl⟩⟩⟩⟩)
        · obtain ⟨B, rfl, b1, b2, b3, b4, b5⟩ := bkF_some hb
          have hG := pg_of hg
          have hout := imS_bkO hG b2 b3 ((blk_iff hG b2 b3).1 b5) (by omega)
          refine ⟨_, 0, .inr ⟨n, rfl, hg, .inr ⟨k, rfl, k1, k2, k3, .inr ⟨ht, .inr ⟨_, hb, hout, rfl⟩⟩⟩⟩, ?_, fun j hj => ?_⟩
          · have := imS_len ((memL n l).map fun a => imgL a (tJ B)) ((memL n l).map fun a => imgL a (tJ B)).length
            rw [List.length_map, memL_len] at this ⊢
            omega
          · obtain ⟨a, _, e⟩ := (hout.2 _).1 (gl_mem hj)
            rw [← e, img_len, tJ_len]
            omega
      · exact he 5 (.inr ⟨n, rfl, hg, .inr ⟨k, rfl, k1, k2, k3, .inl ⟨ht, rfl, rfl⟩⟩⟩)
    · exact he 2 (.inr ⟨n, rfl, hg, .inl ⟨hbad, rfl, rfl⟩⟩)
theorem bsr_fix {p s code : Int} {l : List Int} {ll : List (List Int)} {w w' : World} {e : Ending} (h0 : BSP p l s ll code) (h : BSR p l s w e w') : ∃ (A : Option Addr) (m c : Nat) (vs : List Value), m = ll.length ∧ e = .returned (.tuple #[.slice A m c, .int .i64 code]) ∧ w'.ownsRow w.heap.size 24 1 (.slice A m c) m vs ∧ RowsO w' w.heap.size vs ll ∧ Below w.heap.size w w' := by
  obtain ⟨A, m, c, vs, out, cd, h1, h2, h3, h4, h5, h6⟩ := h
  obtain ⟨rfl, rfl⟩ := bsp_unique h2 h0
  exact ⟨A, m, c, vs, h3, h1, h4, h5, h6⟩
theorem bsr_fixN {p s code : Int} {l : List Int} {ll : List (List Int)} {w w' : World} {e : Ending} (h0 : BSP p l s ll code) (h : BSR p l s w e w') : ∃ (A : Option Addr) (c : Nat) (vs : List Value), e = .returned (.tuple #[.slice A ll.length c, .int .i64 code]) ∧ w'.ownsRow w.heap.size 24 1 (.slice A ll.length c) ll.length vs ∧ RowsO w' w.heap.size vs ll ∧ Below w.heap.size w w' := by
  obtain ⟨A, m, c, vs, rfl, h1, h2, h3, h4⟩ := bsr_fix h0 h
  exact ⟨A, c, vs, h1, h2, h3, h4⟩
end Go.Proofs.YtglijcdnnaekkaaGreat

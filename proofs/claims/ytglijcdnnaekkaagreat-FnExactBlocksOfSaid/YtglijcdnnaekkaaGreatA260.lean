/- All images of the first block of a size: the program's side. -/
import Derived.Test.YtglijcdnnaekkaaGreatA259
import Derived.Test.YtglijcdnnaekkaaGreatA177
namespace Go.Proofs.YtglijcdnnaekkaaGreat
set_option linter.unusedVariables false
set_option linter.unusedSimpArgs false
open Go.RowKit

set_option maxRecDepth 20000 in
set_option maxHeartbeats 2000000 in
theorem i_BlocksOf (p s : Int) (A : Option Addr) (L c : Nat) (l : List Int) (w : World) (hs64 : -9223372036854775808 ≤ s ∧ s ≤ 9223372036854775807) (hL : L = l.length) (hl : L ≤ 1048576) (hs : IS w w.heap.size A l) :
    Calls Tryz.prog 9 #[.agg #[.int .i64 p, .slice A L c], .int .i64 s] w (BSR p l s w) := by
  have B0 := BK.new w 26 #[.int .i64 p, .slice A L c]
  obtain ⟨c0, c1, _, _⟩ := B0.two
  have hb0 := (Below.refl w.heap.size w).alloc (Nat.le_refl _) (.cells #[.int .i64 p, .slice A L c] 26)
  have hs0 := hs.call hb0
  have hB0 := fun W (h : Below (w.alloc (.cells #[.int .i64 p, .slice A L c] 26)).heap.size (w.alloc (.cells #[.int .i64 p, .slice A L c] 26)) W) => (B0.below h (by simp)).two
  have hmv := i_IsGroup p A L c l _ hL hl hs0
  cases hg : grpB p l
  · rw [hg] at hmv
    have HP := Lib.hid (fun w' => bsr_none (p := p) (s := s) (l := l) (w := w) (w' := w') (.inl ⟨hg, rfl, rfl⟩))
    clear hg hL hs hs0 B0 hB0
    go_enter Tryz.func9, Tryz.ntmps9
    go_wp2_with (go_at_call 60; refine hmv.mono ?_; rintro e w2 ⟨rfl, hb2⟩)
    go_ret2
    exact HP.out _ (bel_call hb0 hb2)
  · rw [hg] at hmv
    obtain ⟨n, rfl, h1, h2, h3, h4, hk⟩ := grpB_t hg
    by_cases hbad : ∃ k : Nat, s = k ∧ 1 ≤ k ∧ k ≤ n ∧ n % k = 0
    · obtain ⟨k, rfl, k1, k2, k3⟩ := hbad
      have htr := fun W h => i_trans n A L c l W h1 h2 hL (by omega) (by omega) hk h
      have hbk := fun W h => i_blocks n k A L c l W h1 h2 hL (by omega) (by omega) hk k1 (by omega) h
      have hrem : Int.tmod (n : Int) (k : Int) = 0 := by rw [Int.tmod_eq_emod_of_nonneg (by omega)]; omega
      have hk1 : ¬ (k : Int) < 1 := by omega
      have hk0 : ¬ (k : Int) = 0 := by omega
      have hk0' : 0 < k := by omega
      by_cases ht : (orL n l 0).length = n
      · rw [decide_eq_true ht] at htr
        by_cases hbf : bkF n l k = none
        · have hcall : ∀ W, IS W W.heap.size A l → Calls Tryz.prog 62 #[.agg #[.int .i64 n, .slice A L c], .int .i64 k] W (fun e w' => e = .returned (.slice none 0 0) ∧ Below W.heap.size W w') := fun W h => (hbk W h).mono fun e w' h => by
            rcases h with ⟨_, h1, h2⟩ | ⟨pts, _, _, _, _, _, hsm, _⟩
            · exact ⟨h1, h2⟩
            · rw [hbf] at hsm; cases hsm
          have HP := Lib.hid (fun w' => bsr_none (p := n) (s := k) (l := l) (w := w) (w' := w') (.inr ⟨n, rfl, hg, .inr ⟨k, rfl, k1, k2, k3, .inr ⟨ht, .inl ⟨hbf, rfl, rfl⟩⟩⟩⟩))
          have hq0 : ∀ W : World, (binOp .eql 29 (.slice none 0 0) (.slice none 0 0)).run Tryz.prog W = .ok (.bool true) W := fun W => Lib.run_eql_slice_nil W _ _ none 0 0 0 0 Tryz.underlying29
          clear hbf hbk hg ht k3 hk hL hs B0
          go_enter Tryz.func9, Tryz.ntmps9
          go_wp2_with (first
            | (go_at_call 60; refine hmv.mono ?_; rintro e w2 ⟨rfl, hb2⟩; obtain ⟨d0, d1, _, _⟩ := hB0 _ hb2)
            | (go_at_call 61; refine (htr _ (hs0.call hb2)).mono ?_; rintro e w3 ⟨rfl, hb3⟩; have b3 := bel_call hb2 hb3; obtain ⟨e0, e1, _, _⟩ := hB0 _ b3)
            | (go_at_call 62; refine (hcall _ (hs0.call b3)).mono ?_; rintro e w4 ⟨rfl, hb4⟩))
          go_ret2
          exact HP.out _ (bel_call hb0 (bel_call b3 hb4))
        · have hcall : ∀ W, w.heap.size ≤ W.heap.size → IS W W.heap.size A l → Calls Tryz.prog 62 #[.agg #[.int .i64 n, .slice A L c], .int .i64 k] W (fun e w' => ∃ g m c4 vs out, e = .returned (.slice (some ⟨g, 0, none⟩) m c4) ∧ BSP n l k out 0 ∧ m = out.length ∧ w'.ownsRow w.heap.size 24 1 (.slice (some ⟨g, 0, none⟩) m c4) m vs ∧ RowsO w' w.heap.size vs out ∧ Below W.heap.size W w') := fun W hz h => (hbk W h).mono fun e w' h => by
            rcases h with ⟨h0, _, _⟩ | ⟨pts, out, g, m, c4, vs, hsm, q1, q2, q3, q4, q5, q6, q7⟩
            · exact absurd h0 hbf
            · exact ⟨g, m, c4, vs, out, q4, .inr ⟨n, rfl, hg, .inr ⟨k, rfl, k1, k2, k3, .inr ⟨ht, .inr ⟨pts, hsm, q1, rfl⟩⟩⟩⟩, q3, own_mono q5 hz, q6.mono hz, q7⟩
          have hq1 : ∀ (W : World) (g m c4 : Nat), (binOp .eql 29 (.slice (some ⟨g, 0, none⟩) m c4) (.slice none 0 0)).run Tryz.prog W = .ok (.bool false) W := fun W g m c4 => Lib.run_eql_slice_nil W _ _ (some ⟨g, 0, none⟩) m c4 0 0 Tryz.underlying29
          clear hbf hbk hg ht k3 hk hL hs B0
          go_enter Tryz.func9, Tryz.ntmps9
          go_wp2_with (first
            | (go_at_call 60; refine hmv.mono ?_; rintro e w2 ⟨rfl, hb2⟩; obtain ⟨d0, d1, _, _⟩ := hB0 _ hb2)
            | (go_at_call 61; refine (htr _ (hs0.call hb2)).mono ?_; rintro e w3 ⟨rfl, hb3⟩; have b3 := bel_call hb2 hb3; obtain ⟨e0, e1, _, _⟩ := hB0 _ b3)
            | (go_at_call 62; refine (hcall _ (bel_call hb0 b3).size (hs0.call b3)).mono ?_; rintro e w4 ⟨g, m, c4, vs, out, rfl, x1, x2, x3, x4, hb4⟩; have X1 := Lib.hid x1; have X2 := Lib.hid x2; clear x1 x2))
          go_ret2
          exact ⟨_, m, c4, vs, out, 0, rfl, X1.out, X2.out, x3, x4, bel_call hb0 (bel_call b3 hb4)⟩
      · rw [decide_eq_false ht] at htr
        have HP := Lib.hid (fun w' => bsr_none (p := n) (s := k) (l := l) (w := w) (w' := w') (.inr ⟨n, rfl, hg, .inr ⟨k, rfl, k1, k2, k3, .inl ⟨ht, rfl, rfl⟩⟩⟩))
        clear hbk hg ht k3 hk hL hs B0
        go_enter Tryz.func9, Tryz.ntmps9
        go_wp2_with (first
          | (go_at_call 60; refine hmv.mono ?_; rintro e w2 ⟨rfl, hb2⟩; obtain ⟨d0, d1, _, _⟩ := hB0 _ hb2)
          | (go_at_call 61; refine (htr _ (hs0.call hb2)).mono ?_; rintro e w3 ⟨rfl, hb3⟩; have b3 := bel_call hb2 hb3))
        go_ret2
        exact HP.out _ (bel_call hb0 b3)
    · have HP := Lib.hid (fun w' => bsr_none (p := n) (s := s) (l := l) (w := w) (w' := w') (.inr ⟨n, rfl, hg, .inl ⟨hbad, rfl, rfl⟩⟩))
      by_cases hs1 : s < 1
      · clear hbad hg hk hL hs hs0 B0
        go_enter Tryz.func9, Tryz.ntmps9
        go_wp2_with (go_at_call 60; refine hmv.mono ?_; rintro e w2 ⟨rfl, hb2⟩; obtain ⟨d0, d1, _, _⟩ := hB0 _ hb2)
        go_ret2
        exact HP.out _ (bel_call hb0 hb2)
      · obtain ⟨k, rfl⟩ := Int.eq_ofNat_of_zero_le (show 0 ≤ s by omega)
        have hrem : Int.tmod (n : Int) (k : Int) = ((n % k : Nat) : Int) := by rw [Int.tmod_eq_emod_of_nonneg (by omega)]; simp
        have hne : n % k ≠ 0 := fun e => hbad ⟨k, rfl, by omega, Nat.le_of_dvd (by omega) (Nat.dvd_of_mod_eq_zero e), e⟩
        have hk0' : 0 < k := by omega
        generalize n % k = R at *
        have hz2 : ((R : Int) != 0) = true := by rw [bne_iff_ne]; omega
        clear hbad hg hk hL hs hs0 B0 hne
        go_enter Tryz.func9, Tryz.ntmps9
        go_wp2_with (go_at_call 60; refine hmv.mono ?_; rintro e w2 ⟨rfl, hb2⟩; obtain ⟨d0, d1, _, _⟩ := hB0 _ hb2)
        go_ret2
        exact HP.out _ (bel_call hb0 hb2)
end Go.Proofs.YtglijcdnnaekkaaGreat

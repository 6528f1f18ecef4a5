/- Is a group primitive: both sides, and the law. -/
import Derived.Test.YtglijcdnnaekkaaGreatA253
import Derived.Test.YtglijcdnnaekkaaGreatA177
namespace Go.Proofs.YtglijcdnnaekkaaGreat
set_option linter.unusedVariables false
set_option linter.unusedSimpArgs false
open Go.RowKit

set_option maxRecDepth 20000 in
set_option maxHeartbeats 2000000 in
theorem i_IsPrim (p : Int) (A : Option Addr) (L c : Nat) (l : List Int) (w : World) (hL : L = l.length) (hl : L ≤ 1048576) (hs : IS w w.heap.size A l) :
    Calls Tryz.prog 16 #[.agg #[.int .i64 p, .slice A L c]] w (M (.tuple #[.bool (prV p l), .int .i64 (mvC p l)]) w) := by
  have B0 := BK.new w 26 #[.int .i64 p, .slice A L c]
  obtain ⟨c0, c1, _, _⟩ := B0.two
  have hb0 := (Below.refl w.heap.size w).alloc (Nat.le_refl _) (.cells #[.int .i64 p, .slice A L c] 26)
  have hs0 := hs.call hb0
  have hB0 := fun W (h : Below (w.alloc (.cells #[.int .i64 p, .slice A L c] 26)).heap.size (w.alloc (.cells #[.int .i64 p, .slice A L c] 26)) W) => (B0.below h (by simp)).two
  have hmv := i_moved0 p A L c l _ hL hl hs0
  cases hg : grpB p l
  · obtain ⟨v1, v2⟩ := prV_no hg
    rw [v2] at hmv ⊢
    rw [v1]
    clear hg v1 v2 hL hs hs0 B0 hB0
    go_enter Tryz.func16, Tryz.ntmps16
    go_wp2_with (go_at_call 70; refine hmv.mono ?_; rintro e w2 ⟨rfl, hb2⟩)
    go_ret2
    exact ⟨rfl, bel_call hb0 hb2⟩
  · obtain ⟨n, rfl, h1, h2, h3, h4, hk⟩ := grpB_t hg
    obtain ⟨v1, v2⟩ := prV_yes hg
    rw [v2] at hmv ⊢
    rw [v1]
    have htr := fun W h => i_trans n A L c l W h1 h2 hL (by omega) (by omega) hk h
    have hbk := fun k W (hk1 : 1 ≤ k) (hk6 : k ≤ 6) h => i_blocks n k A L c l W h1 h2 hL (by omega) (by omega) hk hk1 hk6 h
    have hy := prB_yes (n := n) (l := l)
    have hno := fun k => prB_no (n := n) (l := l) (k := k)
    generalize prB n l = V at *
    generalize decide ((orL n l 0).length = n) = tr at *
    have HY := Lib.hid hy
    have HNO := Lib.hid hno
    clear hg v1 v2 hL hs B0 hk h3 h4 hy hno
    have hq0 : ∀ W : World, (binOp .eql 29 (.slice none 0 0) (.slice none 0 0)).run Tryz.prog W = .ok (.bool true) W := fun W => Lib.run_eql_slice_nil W _ _ none 0 0 0 0 Tryz.underlying29
    have hq1 : ∀ (W : World) (g m c4 : Nat), (binOp .eql 29 (.slice (some ⟨g, 0, none⟩) m c4) (.slice none 0 0)).run Tryz.prog W = .ok (.bool false) W := fun W g m c4 => Lib.run_eql_slice_nil W _ _ (some ⟨g, 0, none⟩) m c4 0 0 Tryz.underlying29
    go_enter Tryz.func16, Tryz.ntmps16
    go_wp2_with (first
      | (go_at_call 70; refine hmv.mono ?_; rintro e w2 ⟨rfl, hb2⟩; obtain ⟨d0, d1, _, _⟩ := hB0 _ hb2)
      | (go_at_call 61; refine (htr _ (hs0.call hb2)).mono ?_; rintro e w3 ⟨rfl, hb3⟩))
    generalize w.alloc (.cells #[.int .i64 (n : Int), .slice A L c] 26) = w1 at *
    have b3 := bel_call hb2 hb3
    clear htr hmv c0 c1 d0 d1 hb2 hb3
    go_loopw [5, 6] (fun u5 u6 wr => ∃ (k : Nat) (ok : Bool), 2 ≤ k ∧ k ≤ n + 2 ∧ u5 = .bool ok ∧ u6 = .int .i64 k ∧ Hid (ok = true → tr = true ∧ ∀ j, 2 ≤ j → j < k → n % j ≠ 0 ∨ bkF n l j = none) ∧ Hid (ok = false → (tr && V) = false) ∧ Below w3.heap.size w3 wr) (fun _ u6 _ => n + 2 - (intOf u6).toNat)
    case atStart => exact ⟨2, tr, Nat.le_refl _, by omega, rfl, rfl, fun h => ⟨h, fun j hj hj2 => by omega⟩, fun h => by rw [h]; rfl, Below.refl _ _⟩
    case round =>
      obtain ⟨ws, rfl⟩ : ∃ ws : World, ws = wr := ⟨_, rfl⟩
      obtain ⟨k, ok, hk2, hkn, rfl, rfl, HT, HF, hb⟩ := hrel
      have hsz := hb.size
      have bw := bel_call b3 hb
      obtain ⟨d0, d1, _, _⟩ := hB0 _ bw
      cases ok
      · have HV := Lib.hid (HF.out rfl)
        by_cases hlt : k < n
        all_goals
          go_wp2_with (fail)
          go_ret2
          exact ⟨by rw [HV.out]; rfl, bel_call hb0 bw⟩
      · by_cases hlt : k < n
        · have hrem : Int.tmod (n : Int) (k : Int) = ((n % k : Nat) : Int) := by rw [Int.tmod_eq_emod_of_nonneg (by omega)]; simp
          have hk0 : 0 < k := by omega
          have hk6 : k < 6 := by omega
          have hcall := hbk k ws (by omega) (by omega) (hs0.call bw)
          have HNK := Lib.hid (HNO.out k hk2 hlt)
          have HST := Lib.hid (show (n % k ≠ 0 ∨ bkF n l k = none) → tr = true ∧ ∀ j, 2 ≤ j → j < k + 1 → n % j ≠ 0 ∨ bkF n l j = none from fun h => ⟨(HT.out rfl).1, fun j hj hj2 => by
            by_cases e : j = k
            · subst e; exact h
            · exact (HT.out rfl).2 j hj (by omega)⟩)
          generalize hR : n % k = R at *
          have HR := Lib.hid hR
          clear hR
          by_cases hz : R = 0
          · subst hz
            by_cases hbf : bkF n l k = none
            · have HX := Lib.hid (HST.out (.inr hbf))
              have hcall : Calls Tryz.prog 62 #[.agg #[.int .i64 n, .slice A L c], .int .i64 k] ws (fun e w' => e = .returned (.slice none 0 0) ∧ Below ws.heap.size ws w') := hcall.mono fun e w' h => by
                rcases h with ⟨_, h1, h2⟩ | ⟨pts, _, _, _, _, _, hsm, _⟩
                · exact ⟨h1, h2⟩
                · rw [hbf] at hsm; cases hsm
              clear hbf
              go_wp2_with (go_at_call 62; refine hcall.mono ?_; rintro e w4 ⟨rfl, hb4⟩)
              go_roundw
              case rel => exact ⟨k + 1, true, by omega, by omega, rfl, by go_num, (fun _ => HX.out), (fun h => by cases h), hb.trans (hb4.mono hsz)⟩
              case measure => simp [intOf]; omega
            · have HX := Lib.hid (HNK.out rfl hbf)
              have hcall : Calls Tryz.prog 62 #[.agg #[.int .i64 n, .slice A L c], .int .i64 k] ws (fun e w' => ∃ g m c4, e = .returned (.slice (some ⟨g, 0, none⟩) m c4) ∧ Below ws.heap.size ws w') := hcall.mono fun e w' h => by
                rcases h with ⟨h0, _, _⟩ | ⟨pts, out, g, m, c4, vs, hsm, _, _, _, h1, _, _, h2⟩
                · exact absurd h0 hbf
                · exact ⟨g, m, c4, h1, h2⟩
              clear hbf
              go_wp2_with (go_at_call 62; refine hcall.mono ?_; rintro e w4 ⟨g, m, c4, rfl, hb4⟩)
              go_roundw
              case rel => exact ⟨k + 1, false, by omega, by omega, rfl, by go_num, (fun h => by cases h), (fun _ => by rw [HX.out]; simp), hb.trans (hb4.mono hsz)⟩
              case measure => simp [intOf]; omega
          · have hz1 : ((R : Int) == 0) = false := by rw [beq_eq_false_iff_ne]; omega
            have hz2 : ((R : Int) != 0) = true := by rw [bne_iff_ne]; omega
            have HX := Lib.hid (HST.out (.inl hz))
            clear hz
            go_wp2_with (fail)
            go_roundw
            case rel => exact ⟨k + 1, true, by omega, by omega, rfl, by go_num, (fun _ => HX.out), (fun h => by cases h), hb⟩
            case measure => simp [intOf]; omega
        · have hX := HT.out rfl
          have hV := HY.out fun j hj1 hj2 => hX.2 j hj1 (by omega)
          have HV := Lib.hid (show (tr && V) = true by rw [hX.1, hV]; rfl)
          clear hX hV
          go_wp2_with (fail)
          go_ret2
          exact ⟨by rw [HV.out]; rfl, bel_call hb0 bw⟩
/-- The least block about 0 and q is everything. -/
def PCl (n : Nat) (ms : List (List Int)) (q : Nat) : Prop := ∃ c, Cls n ms [0, q] c ∧ Cong n ms c ∧ ap c 0 = ap c q ∧ (clsN n c 0).length = n
set_option maxRecDepth 20000 in
set_option maxHeartbeats 2000000 in
theorem s_IsPrim (p : Int) (A : Option Addr) (L c : Nat) (l : List Int) (w : World) (hL : L = l.length) (hl : L ≤ 1048576) (hs : IS w w.heap.size A l) :
    Calls Tryz.prog 17 #[.agg #[.int .i64 p, .slice A L c]] w (M (.tuple #[.bool (prV p l), .int .i64 (mvC p l)]) w) := by
  have B0 := BK.new w 26 #[.int .i64 p, .slice A L c]
  obtain ⟨c0, c1, _, _⟩ := B0.two
  have hb0 := (Below.refl w.heap.size w).alloc (Nat.le_refl _) (.cells #[.int .i64 p, .slice A L c] 26)
  have hs0 := hs.call hb0
  have hB0 := fun W (h : Below (w.alloc (.cells #[.int .i64 p, .slice A L c] 26)).heap.size (w.alloc (.cells #[.int .i64 p, .slice A L c] 26)) W) => (B0.below h (by simp)).two
  have hmv := s_IsGroup p A L c l _ hL hl hs0
  cases hg : grpB p l
  · rw [hg] at hmv
    obtain ⟨v1, v2⟩ := prV_no hg
    rw [v2, v1]
    clear hg v1 v2 hL hs hs0 B0 hB0
    go_enter Tryz.func17, Tryz.ntmps17
    go_wp2_with (go_at_call 63; refine hmv.mono ?_; rintro e w2 ⟨rfl, hb2⟩)
    go_ret2
    exact ⟨rfl, bel_call hb0 hb2⟩
  · rw [hg] at hmv
    obtain ⟨n, rfl, h1, h2, h3, h4, hk⟩ := grpB_t hg
    obtain ⟨v1, v2⟩ := prV_yes hg
    rw [v2, v1]
    have htr := fun W h => s_trans n A L c l W h1 h2 hL (by omega) (by omega) hk h
    by_cases ht : (orL n l 0).length = n
    · rw [decide_eq_true ht] at htr ⊢
      have hG := pg_of hg
      have hta := orL_all h1 hk ht
      have hbl : ∀ (q : Nat) (W : World) (Ap : Option Addr), 1 ≤ q → q < n → IS W W.heap.size A l → IS W W.heap.size Ap [0, (q : Int)] → Calls Tryz.prog 75 #[.agg #[.int .i64 n, .slice A L c], .slice Ap 2 2] W (fun e w' => ∃ (A4 : Option Addr) (b c4 : Nat), e = .returned (.slice A4 b c4) ∧ (b = n → PCl n (memL n l) q) ∧ (b ≠ n → prB n l = false) ∧ Below W.heap.size W w') := fun q W Ap hq1 hqn h h' => by
        refine (s_l23Block n A Ap L c 2 2 l [0, q] W h1 h2 hL (by omega) (by omega) hk hG hta h rfl (by omega) (by omega) (fun j => by
          rcases j with _ | _ | j
          · show 0 < n; omega
          · exact hqn
          · simp; omega) h' 0 rfl).mono ?_
        rintro e w' ⟨cl, g1, g2, g3, v4, rfl, o4, hb4⟩
        obtain ⟨A4, c4, rfl, _⟩ := own_slice' o4
        have hxy : ap cl 0 = ap cl q := by have := g3 1 (by omega); simpa using this.symm
        rw [tJ_len]
        exact ⟨A4, _, c4, rfl, fun e => ⟨cl, g1, g2, hxy, e⟩, fun e => prim_no hG hta hq1 hqn g1 g2 hxy e, hb4⟩
      have hy : (∀ q, 1 ≤ q → q < n → PCl n (memL n l) q) → prB n l = true := fun h => prim_yes hG h
      generalize prB n l = V at *
      generalize PCl n (memL n l) = G at *
      have HY := Lib.hid hy
      rw [Bool.true_and]
      clear hg v1 v2 hL hs B0 hk h3 h4 hy hG hta ht
      go_enter Tryz.func17, Tryz.ntmps17
      go_wp2_with (first
        | (go_at_call 63; refine hmv.mono ?_; rintro e w2 ⟨rfl, hb2⟩; obtain ⟨d0, d1, _, _⟩ := hB0 _ hb2)
        | (go_at_call 65; refine (htr _ (hs0.call hb2)).mono ?_; rintro e w3 ⟨rfl, hb3⟩))
      generalize w.alloc (.cells #[.int .i64 (n : Int), .slice A L c] 26) = w1 at *
      have b3 := bel_call hb2 hb3
      clear htr hmv c0 c1 d0 d1 hb2 hb3
      go_loopw [4, 5] (fun u4 u5 wr => ∃ (k : Nat) (ok : Bool), 1 ≤ k ∧ k ≤ n ∧ u4 = .bool ok ∧ u5 = .int .i64 k ∧ Hid (ok = true → ∀ j, 1 ≤ j → j < k → G j) ∧ Hid (ok = false → V = false) ∧ Below w3.heap.size w3 wr) (fun _ u5 _ => n - (intOf u5).toNat)
      case atStart => exact ⟨1, true, Nat.le_refl _, h1, rfl, rfl, (fun _ j hj hj2 => by omega), (fun h => by cases h), Below.refl _ _⟩
      case round =>
        obtain ⟨ws, rfl⟩ : ∃ ws : World, ws = wr := ⟨_, rfl⟩
        obtain ⟨k, ok, hk1, hkn, rfl, rfl, HT, HF, hb⟩ := hrel
        have hsz := hb.size
        have bw := bel_call b3 hb
        obtain ⟨d0, d1, _, _⟩ := hB0 _ bw
        cases ok
        · have HV := Lib.hid (HF.out rfl)
          by_cases hlt : k < n
          all_goals
            go_wp2_with (fail)
            go_ret2
            exact ⟨by rw [HV.out]; rfl, bel_call hb0 bw⟩
        · by_cases hlt : k < n
          · have hX := HT.out rfl
            have HST := Lib.hid (show G k → ∀ j, 1 ≤ j → j < k + 1 → G j from fun h j hj hj2 => by
              by_cases e : j = k
              · subst e; exact h
              · exact hX j hj (by omega))
            have hbt := fun q => (Below.refl (ws.drewN q).heap.size (ws.drewN q)).alloc (Nat.le_refl _) (.cells #[.int .i64 0, .int .i64 (k : Int)] 2)
            have hcall := fun q => hbl k ((ws.drewN q).alloc (.cells #[.int .i64 0, .int .i64 (k : Int)] 2)) (some ⟨ws.heap.size, 0, none⟩) hk1 hlt (((hs0.call bw).drewN q).call (hbt q)) (two_isn (ws.drewN q) 0 k)
            have hcall := hcall 1
            have hbt := hbt 1
            obtain ⟨a0, a1, _, _⟩ := hB0 _ (bw.alloc bw.size (.cells #[.int .i64 0, .int .i64 (k : Int)] 2))
            clear hX hbl
            go_wp2_with (fail)
            go_region_law
              (go_simp; first
                | (go_at_call 75; refine hcall.mono ?_; rintro e w5 ⟨A5, b5, c5, rfl, hy5, hn5, hb5⟩; have b5' := bel_call hbt hb5; obtain ⟨e0, e1, _, _⟩ := hB0 _ (bel_call (below_drewN bw 1) b5')))
            all_goals
              have hbr := hb.trans ((undrew (n := 1) b5').mono hsz)
              go_wp2_with (fail)
              go_roundw
              case rel =>
                by_cases hbe : b5 = n
                · exact ⟨k + 1, true, by omega, by omega, by simp [hbe], by go_num, (fun _ => HST.out (hy5 hbe)), (fun h => by cases h), by first | exact hbr | exact below_drewN hbr _⟩
                · have hbi : ((b5 : Int) == (n : Int)) = false := by rw [beq_eq_false_iff_ne]; omega
                  exact ⟨k + 1, false, by omega, by omega, by simp [hbe, hbi], by go_num, (fun h => by cases h), (fun _ => hn5 hbe), by first | exact hbr | exact below_drewN hbr _⟩
              case measure => simp [intOf]; omega
          · have hX := HY.out fun j hj1 hj2 => HT.out rfl j hj1 (by omega)
            have HV := Lib.hid hX
            clear hX
            go_wp2_with (fail)
            go_ret2
            exact ⟨by rw [HV.out]; rfl, bel_call hb0 bw⟩
    · rw [decide_eq_false ht] at htr ⊢
      clear hg v1 v2 hL hs B0 hk h3 h4 ht
      go_enter Tryz.func17, Tryz.ntmps17
      go_wp2_with (first
        | (go_at_call 63; refine hmv.mono ?_; rintro e w2 ⟨rfl, hb2⟩; obtain ⟨d0, d1, _, _⟩ := hB0 _ hb2)
        | (go_at_call 65; refine (htr _ (hs0.call hb2)).mono ?_; rintro e w3 ⟨rfl, hb3⟩))
      have b3 := bel_call hb2 hb3
      clear htr hmv c0 c1 d0 d1
      go_loopw [4, 5] (fun u4 u5 wr => u4 = .bool false ∧ u5 = .int .i64 1 ∧ Below w3.heap.size w3 wr) (fun _ _ _ => 0)
      case atStart => exact ⟨rfl, rfl, Below.refl _ _⟩
      case round =>
        obtain ⟨ws, rfl⟩ : ∃ ws : World, ws = wr := ⟨_, rfl⟩
        obtain ⟨rfl, rfl, hb⟩ := hrel
        obtain ⟨d0, d1, _, _⟩ := hB0 _ (bel_call b3 hb)
        by_cases hlt : (1 : Int) < (n : Int)
        all_goals
          go_wp2_with (fail)
          go_ret2
          exact ⟨rfl, bel_call hb0 (bel_call b3 hb)⟩
end Go.Proofs.YtglijcdnnaekkaaGreat

/- The name of a group: the program's side. -/
import Derived.Test.YtkiglhaeiomohaaGreatA181
namespace Go.Proofs.YtkiglhaeiomohaaGreat
set_option linter.unusedVariables false
set_option linter.unusedSimpArgs false
open Go.RowKit

set_option maxHeartbeats 1000000 in
theorem i_eqC (gx : Nat) (p p' : Int) (A A' : Option Addr) (L c L' c' : Nat) (l l' : List Int) (w : World) (hL : L = l.length) (hl : L ≤ 1000) (hs : IS w w.heap.size A l) (hL' : L' = l'.length) (hl' : L' ≤ 1000) (hs' : IS w w.heap.size A' l') (hgx : gx < w.heap.size) (h0 : w.cell? ⟨gx, 0, none⟩ = some (.int .i64 p')) (h1 : w.cell? ⟨gx, 1, none⟩ = some (.slice A' L' c')) :
    Calls Tryz.prog 113 #[.agg #[.int .i64 p, .slice A L c], .pointer (some ⟨gx, 0, none⟩)] w (M (.bool (decide (l = l'))) w) := by
  have hb0 := (Below.refl w.heap.size w).alloc (Nat.le_refl _) (.cells #[.int .i64 p, .slice A L c] 41)
  obtain ⟨f0, f1, _, _⟩ := (BK.new w 41 #[.int .i64 p, .slice A L c]).two
  have g0 := (hb0.cell (p := ⟨gx, 0, none⟩) hgx).trans h0
  have g1 := (hb0.cell (p := ⟨gx, 1, none⟩) hgx).trans h1
  have hc := fun m => i_same A A' L c L' c' l l' ((w.alloc (.cells #[.int .i64 p, .slice A L c] 41)).drewN m) _ _ hL hL' (by omega) (by omega) ((hs.call hb0).drewN m) ((hs'.call hb0).drewN m)
  generalize decide (l = l') = b at *
  clear hL hL' hs hs' h0 h1
  go_enter Tryz.func113, Tryz.ntmps113
  go_wp2_with (first | go_quiet ((go_at_call 96; first | exact Calls.quiet_of (hc _) | exact qadd (hc _))) | (go_at_call 96; refine (hc 0).mono ?_; rintro e w1 ⟨rfl, nq, rfl⟩))
  go_ret
  exact ⟨rfl, below_drewN hb0 _⟩
set_option maxRecDepth 10000 in
set_option maxHeartbeats 2000000 in
theorem c_idxConj (gx n : Nat) (p' : Int) (A' : Option Addr) (L' c' : Nat) (l' : List Int) (A : Option Addr) (N c base : Nat) (vs : List Value) (ll : List (List Int)) (w : World) (hN : N = ll.length) (hl : N ≤ 1000) (ho : w.ownsRow base 41 2 (.slice A N c) N (gcells n vs)) (hr : RowsO w base vs ll) (hll : ∀ k, k < N → (gl ll k).length ≤ 1000) (hL' : L' = l'.length) (hl' : L' ≤ 1000) (hs' : IS w w.heap.size A' l') (hgx : gx < w.heap.size) (h0 : w.cell? ⟨gx, 0, none⟩ = some (.int .i64 p')) (h1 : w.cell? ⟨gx, 1, none⟩ = some (.slice A' L' c')) :
    Calls Tryz.prog 82 #[.slice A N c, .func (.func 113) #[] #[.pointer (some ⟨gx, 0, none⟩)]] w (fun e w' => ∃ k : Int, e = .returned (.int .i64 k) ∧ decide (0 ≤ k) = (ll.any fun x => decide (x = l')) ∧ Below w.heap.size w w') := by
  have HN := Lib.hid hN
  have HLL := Lib.hid hll
  have hvl : vs.length = N := by rw [hr.1]; exact hN.symm
  have HVL := Lib.hid hvl
  have HL' := Lib.hid hL'
  clear hN hll hvl hL'
  go_enter Tryz.func82, Tryz.ntmps82
  go_wp2_with (fail)
  go_loopw [8] (fun u8 wr => ∃ k : Nat, k ≤ N ∧ u8 = .int .i64 k ∧ Hid (∀ j, j < k → decide (gl ll j = l') = false) ∧ Below w.heap.size w wr) (fun u8 _ => N - (intOf u8).toNat)
  case atStart => exact ⟨0, Nat.zero_le _, rfl, fun j hj => by omega, Below.refl _ _⟩
  case round =>
    obtain ⟨ws, rfl⟩ : ∃ ws : World, ws = wr := ⟨_, rfl⟩
    obtain ⟨k, hk, rfl, HI, hb⟩ := hrel
    have hsz := hb.size
    by_cases hlt : k < N
    · have hkv : k < vs.length := by rw [HVL.out]; exact hlt
      obtain ⟨g, rfl, _, hg, hc⟩ := own_src ho (by omega)
      obtain ⟨q1, q2⟩ := gcells_at n vs k hkv
      have e0 := (hb.cell (p := ⟨g, k * 2, none⟩) hg).trans (hc _ _ q1)
      have e1 := (hb.cell (p := ⟨g, k * 2 + 1, none⟩) hg).trans (hc _ _ q2)
      have hrow := hr.2.1 k hkv
      unfold OwnI at hrow
      obtain ⟨Ak, ck, hvk, _⟩ := own_slice' hrow
      rw [hvk] at e1 hrow
      have his := own_isn (own_below hrow hb) rfl
      have hlk := HLL.out k hlt
      have hmem : gl ll k ∈ ll := gl_mem (by rw [← HN.out]; exact hlt)
      have hp := i_eqC gx (n : Int) p' Ak A' (gl ll k).length ck L' c' (gl ll k) l' ws rfl hlk his HL'.out hl' (hs'.call hb) (by omega) ((hb.cell (p := ⟨gx, 0, none⟩) hgx).trans h0) ((hb.cell (p := ⟨gx, 1, none⟩) hgx).trans h1)
      clear hc q1 q2 hvk hrow his hkv
      by_cases hneg : decide (gl ll k = l') = true
      · have hany : (ll.any fun x => decide (x = l')) = true := by
          rw [List.any_eq_true]
          exact ⟨gl ll k, hmem, hneg⟩
        have HANY := Lib.hid hany
        rw [hneg] at hp
        clear hany hneg hmem
        generalize (gl ll k).length = K at *
        go_wp2_with (first | (go_at_call 113; refine hp.mono ?_; rintro e w2 ⟨rfl, hb2⟩) | go_in)
        go_ret
        exact ⟨k, rfl, by rw [HANY.out]; simp, hb.trans (hb2.mono hsz)⟩
      · have hneg : decide (gl ll k = l') = false := by rw [Bool.eq_false_iff]; exact hneg
        have HN' : Hid (∀ j, j < k + 1 → decide (gl ll j = l') = false) := fun j hj => by
          by_cases hjk : j = k
          · subst hjk; exact hneg
          · exact HI.out j (by omega)
        rw [hneg] at hp
        clear hneg hmem
        generalize (gl ll k).length = K at *
        go_wp2_with (first | (go_at_call 113; refine hp.mono ?_; rintro e w2 ⟨rfl, hb2⟩) | go_in)
        go_roundw
        case rel => exact ⟨k + 1, by omega, by go_num, HN'.out, hb.trans (hb2.mono hsz)⟩
        case measure => simp [intOf]; omega
    · obtain rfl : k = N := by omega
      have hany : (ll.any fun x => decide (x = l')) = false := by
        rw [List.any_eq_false]
        intro a ha
        obtain ⟨j, hj, rfl⟩ := mem_gl.1 ha
        exact Bool.eq_false_iff.1 (HI.out j (by rw [HN.out]; exact hj))
      have HANY := Lib.hid hany
      clear hany
      go_wp2_with (fail)
      go_ret
      exact ⟨-1, rfl, by rw [HANY.out]; simp, hb⟩
set_option maxRecDepth 10000 in
set_option maxHeartbeats 2000000 in
theorem i_isConj (n : Nat) (p' : Int) (A A' : Option Addr) (L c L' c' : Nat) (l l' : List Int) (w : World) (hn : 1 ≤ n) (hn6 : n ≤ 6) (hL : L = l.length) (h0 : 0 < L) (hl : L ≤ 1000) (hk : InK n l) (hs : IS w w.heap.size A l) (hL' : L' = l'.length) (hl' : L' ≤ 1000) (hs' : IS w w.heap.size A' l') :
    Calls Tryz.prog 68 #[.agg #[.int .i64 n, .slice A L c], .agg #[.int .i64 p', .slice A' L' c']] w (M (.bool (decide (L = L') && (cjA n l (fact n)).any fun x => decide (x = l'))) w) := by
  have hb := two_alloc w (.cells #[.int .i64 (n : Int), .slice A L c] 41) (.cells #[.int .i64 p', .slice A' L' c'] 41)
  obtain ⟨B1, B2⟩ := two_boxes w 41 41 #[.int .i64 (n : Int), .slice A L c] #[.int .i64 p', .slice A' L' c']
  have hz : ((w.alloc (.cells #[.int .i64 (n : Int), .slice A L c] 41)).alloc (.cells #[.int .i64 p', .slice A' L' c'] 41)).heap.size = w.heap.size + 2 := by simp
  have hs0 := hs.call hb
  have hs0' := hs'.call hb
  obtain ⟨f0, f1, _, _⟩ := B1.two
  obtain ⟨f2, f3, _, _⟩ := B2.two
  by_cases hLL : L = L'
  · have hF := fact_720 (show n ≤ 6 from hn6)
    have hcon := fun A c W h => i_conjugatesOf n A L c l W hn hn6 hL h0 hl hk h
    have hcl := cjA_len n l (fact n)
    have hll : ∀ j, j < fact n → (gl (cjA n l (fact n)) j).length ≤ 1000 := fun j hj => by
      have e : gl (cjA n l (fact n)) j = rkC (cjM n (wrL n j) l) := by
        unfold cjA
        simp [gl, hj]
      rw [e]
      have := (rkC_in hn (wrL_in hj) hk).2
      omega
    rw [decide_eq_true hLL, Bool.true_and]
    subst hLL
    have hidx := fun A2 c2 base vs W ho hr hss hgx g0 g1 => c_idxConj (w.heap.size + 1) n p' A' L c' l' A2 (fact n) c2 base vs (cjA n l (fact n)) W hcl.symm (by omega) ho hr hll hL' hl' hss hgx g0 g1
    have hcont := fun A2 c2 base vs W ho hr hss hgx g0 g1 => c_contSub A2 (fact n) c2 _ _ W (hidx A2 c2 base vs W ho hr hss hgx g0 g1)
    generalize ((cjA n l (fact n)).any fun x => decide (x = l')) = bb at *
    generalize cjA n l (fact n) = ll at *
    generalize fact n = F at *
    have B2x := fun W (h : Below ((w.alloc (.cells #[.int .i64 (n : Int), .slice A L c] 41)).alloc (.cells #[.int .i64 p', .slice A' L c'] 41)).heap.size ((w.alloc (.cells #[.int .i64 (n : Int), .slice A L c] 41)).alloc (.cells #[.int .i64 p', .slice A' L c'] 41)) W) => (B2.below h (by rw [hz]; omega)).two
    have HZ := Lib.hid hz
    clear hcl hll hidx hL hL' hs hs' hk B1 B2 hz
    go_enter Tryz.func68, Tryz.ntmps68
    go_wp2_with (first
      | (go_at_call 40; refine (hcon A c _ hs0).mono ?_; rintro e w2 ⟨A2, c2, vs, rfl, ho2, hr2, hb2⟩; obtain ⟨k0, k1, _, _⟩ := B2x _ hb2)
      | (go_at_call 39; refine (hcont A2 c2 _ vs _ ho2 hr2 (hs0'.call hb2) (by have := hb2.size; rw [HZ.out] at this; omega) k0 k1).mono ?_; rintro e w3 ⟨rfl, hb3⟩))
    go_ret
    exact ⟨rfl, bel_call (bel_call hb hb2) hb3⟩
  · rw [decide_eq_false hLL, Bool.false_and]
    have hne : ((L : Int) == (L' : Int)) = false := by rw [beq_eq_false_iff_ne]; omega
    clear hs0 hs0' hs hs' hL hL' hk
    go_enter Tryz.func68, Tryz.ntmps68
    go_wp2_with (fail)
    go_ret
    exact ⟨rfl, hb⟩
set_option maxRecDepth 100000 in
set_option maxHeartbeats 2000000 in
theorem i_nameE (k : Nat) (hk : k < 14) (nb : ByteArray) (A A' : Option Addr) (G c L' c' gx n : Nat) (l' : List Int) (w : World) (hn : 1 ≤ n) (hn6 : n ≤ 6) (hG : G = (lbG k).length) (hii : II w w.heap.size A (lbG k)) (hL' : L' = l'.length) (h0 : 0 < L') (hl' : L' ≤ 1000) (hk' : InK n l') (hs' : IS w w.heap.size A' l') (hgx : gx < w.heap.size) (g0 : w.cell? ⟨gx, 0, none⟩ = some (.int .i64 (n : Int))) (g1 : w.cell? ⟨gx, 1, none⟩ = some (.slice A' L' c')) :
    Calls Tryz.prog 67 #[.agg #[.string nb, .int .i64 (lbP k : Nat), .slice A G c], .pointer (some ⟨gx, 0, none⟩)] w (M (.bool (nmQI n l' k)) w) := by
  obtain ⟨p1, p2, _, _, _⟩ := lb_in k hk
  have hgr := fun W h => i_libgroup k hk A G c hG nb W h
  have hlk := RK_len k hk
  have hcj := fun Ar cr W h h' => i_isConj n (lbP k : Nat) A' Ar L' c' (RK (lbP k) (lbG k)).length cr l' (RK (lbP k) (lbG k)) W hn hn6 hL' h0 hl' hk' h rfl hlk h'
  have hq : nmQI n l' k = (decide (L' = (RK (lbP k) (lbG k)).length) && (cjA n l' (fact n)).any fun x => decide (x = RK (lbP k) (lbG k))) := by unfold nmQI; rw [hL']
  rw [hq]
  generalize (decide (L' = (RK (lbP k) (lbG k)).length) && (cjA n l' (fact n)).any fun x => decide (x = RK (lbP k) (lbG k))) = bb at *
  generalize RK (lbP k) (lbG k) = R at *
  generalize lbP k = p at *
  generalize lbG k = gens at *
  generalize hR : R.length = L at *
  have HR := Lib.hid hR.symm
  have hb0 := (Below.refl w.heap.size w).alloc (Nat.le_refl _) (.cells #[.string nb, .int .i64 (p : Int), .slice A G c] 62)
  have hii0 := II.callG hii hb0
  obtain ⟨d0, d1, d2⟩ := BK.tri (BK.new w 62 #[.string nb, .int .i64 (p : Int), .slice A G c])
  have gA := fun W (h : Below w.heap.size w W) => (h.cell (p := ⟨gx, 0, none⟩) hgx).trans g0
  have gB := fun W (h : Below w.heap.size w W) => (h.cell (p := ⟨gx, 1, none⟩) hgx).trans g1
  have gS := fun W (h : Below w.heap.size w W) => hs'.call h
  have x0 := gA _ hb0
  have x1 := gB _ hb0
  have hgrR := hgr ((w.alloc (.cells #[.string nb, .int .i64 (p : Int), .slice A G c] 62)).drew) hii0
  clear hG hii hL' hs' hR hq hk'
  go_enter Tryz.func67, Tryz.ntmps67
  go_wp2_with (fail)
  go_region_law
    (go_simp; first
      | (go_at_call 41; refine hgrR.mono ?_; rintro e w1 ⟨v, rfl, ho1, hb1⟩; obtain ⟨Ar, cr, rfl, _⟩ := own_slice' ho1; rw [← HR.out] at ho1 ⊢; have hb1 := undrew (n := 1) hb1; have hbw1 := bel_call hb0 hb1; have y0 := gA _ hbw1; have y1 := gB _ hbw1)
      | (go_at_call 68; refine (hcj Ar cr _ (gS _ hbw1) (own_isn ho1 HR.out)).mono ?_; rintro e w3 ⟨rfl, hb3⟩))
  all_goals
    go_wp2_with (fail)
    go_ret
    exact ⟨rfl, bel_call hbw1 hb3⟩
set_option maxRecDepth 10000 in
set_option maxHeartbeats 2000000 in
theorem i_namesName (n : Int) (gx : Nat) (q : Nat → Bool) (w : World) (hclo : ∀ k, k < 14 → (lbP k : Int) = n → ∀ nb A G c W, Below w.heap.size w W → G = (lbG k).length → II W W.heap.size A (lbG k) → Calls Tryz.prog 67 #[.agg #[.string nb, .int .i64 (lbP k : Nat), .slice A G c], .pointer (some ⟨gx, 0, none⟩)] W (M (.bool (q k)) W)) :
    Calls Tryz.prog 37 #[.int .i64 n, .func (.func 67) #[] #[.pointer (some ⟨gx, 0, none⟩)]] w (OS (snK n q 14) w) := by
  obtain ⟨i0, hi, hz0, hz1, hz2⟩ := info_parts infoStr
  have HCLO := Lib.hid hclo
  clear hclo
  go_enter Tryz.func37, Tryz.ntmps37
  go_wp2_with (go_at_call 81; refine (i_library _).mono ?_; rintro e w1 ⟨b, rfl, hlib, hb1⟩)
  have hz1' := hb1.size
  go_loopw [5, 10] (fun u3 u5 wr => ∃ k m : Nat, k ≤ 14 ∧ m ≤ k ∧ u5 = .int .i64 k ∧ OwnS wr w1.heap.size u3 m ((snK n q k).map lbN) ∧ Hid (m = (snK n q k).length) ∧ Below w1.heap.size w1 wr) (fun _ u5 _ => 14 - (intOf u5).toNat)
  case atStart => exact ⟨0, 0, Nat.zero_le _, Nat.le_refl _, rfl, ⟨[], World.ownsRow_nil _ _ _ _, rfl⟩, rfl, Below.refl _ _⟩
  case round =>
    obtain ⟨ws, rfl⟩ : ∃ ws : World, ws = wr := ⟨_, rfl⟩
    obtain ⟨k, m, hk, hm, rfl, ⟨bs, hown, hbs⟩, HM, hb⟩ := hrel
    obtain ⟨A1, c1, rfl, _⟩ := own_slice' hown
    have hsz := hb.size
    by_cases hlt : k < 14
    · obtain ⟨nb, A, c, hn, e0, e1, e2, hii⟩ := (hlib.below hb).2 k hlt
      have HBS := Lib.hid hbs
      have HN := Lib.hid hn
      have hclo := HCLO.out k hlt
      clear hbs hn
      generalize hG : (lbG k).length = G at *
      have HG := Lib.hid hG
      have B9 := BK.new ws 62 #[.string nb, .int .i64 ((lbP k : Nat) : Int), .slice A G c]
      have hbA := (Below.refl ws.heap.size ws).alloc (Nat.le_refl _) (.cells #[.string nb, .int .i64 ((lbP k : Nat) : Int), .slice A G c] 62)
      have hbw := bel_call (bel_call hb1 hb) hbA
      have hii2 := (hii.below (hbA.mono hsz)).more (show w1.heap.size ≤ (ws.alloc (.cells #[.string nb, .int .i64 ((lbP k : Nat) : Int), .slice A G c] 62)).heap.size by have := hbA.size; omega)
      by_cases hpn : (lbP k : Int) = n
      · have ht : ((lbP k : Int) == n) = true := by rw [beq_iff_eq]; exact hpn
        have hcl := hclo hpn nb A G c _ hbw rfl hii2
        cases hq : q k
        · have HY := Lib.hid (snK_no hpn hq)
          rw [hq] at hcl
          clear hpn hclo hq hii hG
          generalize lbP k = pk at *
          generalize lbG k = gens at *
          obtain ⟨d0, d1, d2⟩ := B9.tri
          go_wp2_with (first | (go_at_call 67; refine hcl.mono ?_; rintro e w9 ⟨rfl, hb9⟩) | go_in)
          go_roundw
          case rel => exact ⟨k + 1, m, by omega, by omega, by go_num, ⟨bs, own_below (World.ownsRow.alloc hown _) hb9, by rw [HY.out]; exact HBS.out⟩, by unfold Hid; rw [HY.out]; exact HM.out, bel_call (hb.alloc hsz _) hb9⟩
          case measure => simp [intOf]; omega
        · have HY := Lib.hid (snK_yes hpn hq)
          rw [hq] at hcl
          clear hpn hclo hq hii hG
          generalize lbP k = pk at *
          generalize lbG k = gens at *
          obtain ⟨d0, d1, d2⟩ := B9.tri
          have hB9 := fun W (h : Below (ws.alloc (.cells #[.string nb, .int .i64 (pk : Int), .slice A G c] 62)).heap.size (ws.alloc (.cells #[.string nb, .int .i64 (pk : Int), .slice A G c] 62)) W) => (B9.below h (by simp)).tri
          go_wp2_with (first
            | (go_at_call 67; refine hcl.mono ?_; rintro e w9 ⟨rfl, hb9⟩; obtain ⟨k0, k1, k2⟩ := hB9 _ hb9)
            | (at_builtin; refine wpList_append_src rfl (.tmp 23) (.tmp 26) 25 rfl w1.heap.size 9 i0 (.string ⟨#[]⟩) 1 16 Tryz.underlying25 hi hz0 hz1 hz2 rfl (by omega) (.slice A1 m c1) m (strs bs) rfl (World.ownsRow.alloc (own_below (World.ownsRow.alloc hown (.cells #[.string nb, .int .i64 (pk : Int), .slice A G c] 62)) hb9) _) (some ⟨w9.heap.size, 0, none⟩) 1 1 [.string nb] rfl rfl (one_src w9 _ _) (by intro h; cases h) (by intro u hu; simp at hu; subst hu; rfl) (by simp only [maxLen]; omega) (by omega) (by have := hb9.size; simp at this; simp; omega) ?_; intro v5 w5 hown5 hg5 hat5)
            | go_in)
          have hz9 := hb9.size
          simp at hz9
          go_roundw
          case rel =>
            refine ⟨k + 1, m + 1, by omega, by omega, by go_num, ⟨bs ++ [nb], by simpa [strs] using hown5, ?_⟩, ?_, ?_⟩
            · rw [HY.out, List.map_append, List.map_append, HBS.out]; simp [HN.out]
            · unfold Hid; rw [HY.out, List.length_append, HM.out]; rfl
            · exact ((bel_call (hb.alloc hsz _) hb9).alloc (by omega) _).grown hg5 (by simp; omega) (fun g hg => (hown.lt g hg).1)
          case measure => simp [intOf]; omega
      · have ht : ((lbP k : Int) == n) = false := by rw [beq_eq_false_iff_ne]; exact hpn
        have HY := Lib.hid (snK_none (q := q) hpn)
        clear hpn hclo hii hG hii2
        generalize lbP k = pk at *
        obtain ⟨d0, d1, d2⟩ := B9.tri
        go_wp2_with (go_in)
        go_roundw
        case rel => exact ⟨k + 1, m, by omega, by omega, by go_num, ⟨bs, World.ownsRow.alloc hown _, by rw [HY.out]; exact HBS.out⟩, by unfold Hid; rw [HY.out]; exact HM.out, hb.alloc hsz _⟩
        case measure => simp [intOf]; omega
    · obtain rfl : k = 14 := by omega
      go_wp2_with (fail)
      go_ret
      exact ⟨_, rfl, ⟨bs, by rw [← HM.out]; exact own_mono hown hz1', hbs⟩, bel_call hb1 hb⟩
end Go.Proofs.YtkiglhaeiomohaaGreat

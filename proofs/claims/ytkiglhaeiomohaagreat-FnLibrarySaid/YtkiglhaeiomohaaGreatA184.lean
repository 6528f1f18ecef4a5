/- The name of a group: the reference's side, and the law. -/
import Derived.Test.YtkiglhaeiomohaaGreatA183
import Derived.Test.YtkiglhaeiomohaaGreatA175
namespace Go.Proofs.YtkiglhaeiomohaaGreat
set_option linter.unusedVariables false
set_option linter.unusedSimpArgs false
open Go.RowKit

set_option maxRecDepth 100000 in
set_option maxHeartbeats 4000000 in
theorem s_l24Name (n k0 : Nat) (A : Option Addr) (L c : Nat) (l : List Int) (w : World) (hn : 1 ≤ n) (hn5 : n ≤ 5) (hL : L = l.length) (hl : L ≤ 1000) (hk : InK n l) (hs : IS w w.heap.size A l) (hf : (nmK n 14).find? (nmQS n l) = some k0) :
    Calls Tryz.prog 71 #[.agg #[.int .i64 n, .slice A L c]] w (fun e w' => ∃ nb : ByteArray, e = .returned (.string nb) ∧ nb.toList = lbN k0 ∧ Below w.heap.size w w') := by
  have hlst := fun W => s_l24List n W
  have hkj := fun j (h : j < (nmK n 14).length) => nmK_at h
  have hgk := fun k (hk : k < 14) nb (h : nb.toList = lbN k) W => s_l24Group k hk nb h W
  have hcj := fun k (hk14 : k < 14) (hpk : lbP k = n) A2 c2 c' W h h' => s_l24Conjugate n A2 A (RK (lbP k) (lbG k)).length c2 L c' (RK (lbP k) (lbG k)) l W hn (by omega) rfl (RK_len k hk14) hL hl (hpk ▸ RK_in k hk14) hk h h'
  have hsq : ∀ k, nmQS n l k = (decide ((RK (lbP k) (lbG k)).length = L) && cgB n (RK (lbP k) (lbG k)) l) := fun k => by unfold nmQS; rw [hL]
  have hRL := fun k (hk : k < 14) => RK_len k hk
  have hnl := nmK_le n 14
  have hfi := fun j h1 h2 h3 => (find_at (q := nmQS n l) (ks := nmK n 14) (j := j) h1 h2 h3).symm.trans hf
  have hfn := fun h1 => (find_no (q := nmQS n l) (ks := nmK n 14) h1).symm.trans hf
  have hstr := fun bs h j (hj : j < (nmK n 14).length) => strs_nm (bs := bs) (ks := nmK n 14) h hj
  generalize nmQS n l = sq at *
  generalize nmK n 14 = ks at *
  generalize hM : ks.length = M at *
  have HL := Lib.hid hL
  have HM := Lib.hid hM.symm
  have hlst2 : ∀ W, Calls Tryz.prog 46 #[.int .i64 (n : Int)] W (fun e w' => ∃ A cap bs, e = .returned (.slice A M cap) ∧ w'.ownsRow W.heap.size 9 1 (.slice A M cap) M (strs bs) ∧ bs.map (·.toList) = ks.map lbN ∧ Below W.heap.size W w') := fun W => (hlst W).mono fun e w' ⟨v, e1, ⟨bs, e2, e3⟩, e4⟩ => by
    rw [hM] at e2
    obtain ⟨A, c, rfl, _⟩ := own_slice' e2
    exact ⟨A, c, bs, e1, e2, e3, e4⟩
  have HKJ := Lib.hid hkj
  have HGK := Lib.hid hgk
  have HCJ := Lib.hid hcj
  have HSQ := Lib.hid hsq
  have HRL := Lib.hid hRL
  have HFI := Lib.hid hfi
  have HFN := Lib.hid hfn
  have HSTR := Lib.hid hstr
  have B0 := BK.new w 41 #[.int .i64 (n : Int), .slice A L c]
  obtain ⟨c0, c1, _, _⟩ := B0.two
  have hb0 := (Below.refl w.heap.size w).alloc (Nat.le_refl _) (.cells #[.int .i64 (n : Int), .slice A L c] 41)
  have hs0 := hs.call hb0
  have hB0 := fun W (h : Below (w.alloc (.cells #[.int .i64 (n : Int), .slice A L c] 41)).heap.size (w.alloc (.cells #[.int .i64 (n : Int), .slice A L c] 41)) W) => (B0.below h (by simp)).two
  clear hL hM hlst hkj hgk hcj hsq hRL hfi hfn hstr hf hk hs B0
  go_enter Tryz.func71, Tryz.ntmps71
  go_wp2_with (go_at_call 46; refine (hlst2 _).mono ?_; rintro e w4 ⟨Al, cl, bn, rfl, hon, hbn, hb4⟩)
  generalize w.alloc (.cells #[.int .i64 (n : Int), .slice A L c] 41) = w1 at *
  have hbn' := HSTR.out bn hbn
  have HBN := Lib.hid hbn'
  have hz4 := hb4.size
  clear hbn hbn' hlst2 c0 c1
  go_loopw [4] (fun u4 wr => ∃ j : Nat, j ≤ M ∧ u4 = .int .i64 j ∧ Hid (∀ i, i < j → sq (ks.getD i 0) = false) ∧ Below w4.heap.size w4 wr) (fun u4 _ => M - (intOf u4).toNat)
  case atStart => exact ⟨0, Nat.zero_le _, rfl, fun i hi => by omega, Below.refl _ _⟩
  case round =>
    obtain ⟨ws, rfl⟩ : ∃ ws : World, ws = wr := ⟨_, rfl⟩
    obtain ⟨j, hj, rfl, HI, hb⟩ := hrel
    have hsz := hb.size
    have hbw := bel_call hb4 hb
    obtain ⟨f0, f1, _, _⟩ := hB0 _ hbw
    by_cases hlt : j < M
    · obtain ⟨nb, hnb, hnl2⟩ := HBN.out j hlt
      obtain ⟨gn, hgn, _, hgl, hcn⟩ := own_src hon (by omega)
      have e1 := (hb.cell (p := ⟨gn, j, none⟩) hgl).trans (hcn j _ hnb)
      have hkk := HKJ.out j hlt
      have hfi := HFI.out j hlt HI.out
      have HNX := Lib.hid (fun (h : sq (ks.getD j 0) = false) => (show ∀ i, i < j + 1 → sq (ks.getD i 0) = false from fun i hi => by
        by_cases hij : i = j
        · subst hij; exact h
        · exact HI.out i (by omega)))
      generalize ks.getD j 0 = k at *
      obtain ⟨hk14, hkp⟩ := hkk
      have hkp : lbP k = n := by omega
      have hgk := fun W => HGK.out k hk14 nb hnl2 W
      have hcj := HCJ.out k hk14 hkp
      have hsq := HSQ.out k
      have hRL := HRL.out k hk14
      generalize RK (lbP k) (lbG k) = lk at *
      rw [hkp] at hgk
      generalize hLk : lk.length = Lk at *
      have HLK := Lib.hid hLk.symm
      have HNB := Lib.hid hnl2
      subst hgn
      clear hLk hnl2 hcn hnb
      by_cases hd : Lk = L
      · have htd : ((Lk : Int) == (L : Int)) = true := by rw [beq_iff_eq]; omega
        have hsq2 : sq k = cgB n lk l := by rw [hsq, decide_eq_true hd]; rfl
        subst hd
        cases hcb : cgB n lk l
        · rw [hcb] at hcj hsq2
          have HN2 := Lib.hid (HNX.out hsq2)
          clear hsq hsq2 hfi hcb
          go_wp2_with (first
            | (go_at_call 45; refine (hgk _).mono ?_; rintro e w5 ⟨v5, rfl, ho5, hb5⟩; obtain ⟨Ak, ck, rfl, _⟩ := own_slice' ho5; rw [← HLK.out] at ho5 ⊢; have hA := (hb5.alloc hb5.size (.cells #[.int .i64 (n : Int), .slice Ak Lk ck] 41)); have hA3 := bel_call hbw hA; obtain ⟨x0, x1, _, _⟩ := hB0 _ hA3; obtain ⟨y0, y1, _, _⟩ := (BK.new w5 41 #[.int .i64 (n : Int), .slice Ak Lk ck]).two)
            | (go_at_call 47; refine (hcj Ak ck c _ (own_isn (World.ownsRow.alloc ho5 _) HLK.out) (hs0.call hA3)).mono ?_; rintro e w6 ⟨rfl, hb6⟩; have hb56 := bel_call hA hb6))
          go_roundw
          case rel => exact ⟨j + 1, by omega, by go_num, HN2.out, hb.trans (hb56.mono hsz)⟩
          case measure => simp [intOf]; omega
        · rw [hcb] at hcj hsq2
          have hk0 : k = k0 := by have := hfi hsq2; simpa using this
          subst hk0
          clear hsq hsq2 hfi hcb
          go_wp2_with (first
            | (go_at_call 45; refine (hgk _).mono ?_; rintro e w5 ⟨v5, rfl, ho5, hb5⟩; obtain ⟨Ak, ck, rfl, _⟩ := own_slice' ho5; rw [← HLK.out] at ho5 ⊢; have hA := (hb5.alloc hb5.size (.cells #[.int .i64 (n : Int), .slice Ak Lk ck] 41)); have hA3 := bel_call hbw hA; obtain ⟨x0, x1, _, _⟩ := hB0 _ hA3; obtain ⟨y0, y1, _, _⟩ := (BK.new w5 41 #[.int .i64 (n : Int), .slice Ak Lk ck]).two)
            | (go_at_call 47; refine (hcj Ak ck c _ (own_isn (World.ownsRow.alloc ho5 _) HLK.out) (hs0.call hA3)).mono ?_; rintro e w6 ⟨rfl, hb6⟩; have hb56 := bel_call hA hb6; have e2 := (hb56.cell (p := ⟨gn, j, none⟩) (by show gn < _; omega)).trans e1))
          go_ret
          exact ⟨nb, rfl, HNB.out, bel_call hb0 (bel_call hbw hb56)⟩
      · have htd : ((Lk : Int) == (L : Int)) = false := by rw [beq_eq_false_iff_ne]; omega
        have hsq2 : sq k = false := by rw [hsq, decide_eq_false hd]; rfl
        have HN2 := Lib.hid (HNX.out hsq2)
        clear hsq hsq2 hfi hcj
        go_wp2_with (first
          | (go_at_call 45; refine (hgk _).mono ?_; rintro e w5 ⟨v5, rfl, ho5, hb5⟩; obtain ⟨Ak, ck, rfl, _⟩ := own_slice' ho5; rw [← HLK.out] at ho5 ⊢; have hA := (hb5.alloc hb5.size (.cells #[.int .i64 (n : Int), .slice Ak Lk ck] 41)); have hA3 := bel_call hbw hA; obtain ⟨x0, x1, _, _⟩ := hB0 _ hA3; obtain ⟨y0, y1, _, _⟩ := (BK.new w5 41 #[.int .i64 (n : Int), .slice Ak Lk ck]).two))
        go_roundw
        case rel => exact ⟨j + 1, by omega, by go_num, HN2.out, hb.trans (hA.mono hsz)⟩
        case measure => simp [intOf]; omega
    · obtain rfl : j = M := by omega
      exact absurd (HFN.out (fun i hi => HI.out i hi)) (by simp)
set_option maxRecDepth 10000 in
set_option maxHeartbeats 2000000 in
theorem s_NameOf (p : Int) (A : Option Addr) (L c : Nat) (l : List Int) (nm : List UInt8) (code : Int) (w : World) (hL : L = l.length) (hl : L ≤ 1048576) (hs : IS w w.heap.size A l) (h : NM p l nm code) :
    Calls Tryz.prog 24 #[.agg #[.int .i64 p, .slice A L c]] w (SC nm code w) := by
  have B0 := BK.new w 41 #[.int .i64 p, .slice A L c]
  obtain ⟨c0, c1, _, _⟩ := B0.two
  have hb0 := (Below.refl w.heap.size w).alloc (Nat.le_refl _) (.cells #[.int .i64 p, .slice A L c] 41)
  have hs0 := hs.call hb0
  have hB0 := fun W (h : Below (w.alloc (.cells #[.int .i64 p, .slice A L c] 41)).heap.size (w.alloc (.cells #[.int .i64 p, .slice A L c] 41)) W) => (B0.below h (by simp)).two
  have hmv := s_IsGroup p A L c l _ hL hl hs0
  rcases h with ⟨hg, rfl, rfl⟩ | ⟨n, rfl, hg, ht, rfl, rfl⟩ | ⟨n, rfl, hg, ht, h5, rfl, rfl⟩ | ⟨n, k0, rest, rfl, hg, ht, h5, _, hf, hk14, rfl, rfl⟩
  · rw [hg] at hmv
    clear hg hL hs hs0 B0 hB0
    go_enter Tryz.func24, Tryz.ntmps24
    go_wp2_with (go_at_call 69; refine hmv.mono ?_; rintro e w2 ⟨rfl, hb2⟩)
    go_ret2
    exact ⟨_, rfl, nil_list, bel_call hb0 hb2⟩
  · rw [hg] at hmv
    obtain ⟨n', hn, h1, h2, h3, h4, hk⟩ := grpB_t hg
    obtain rfl : n = n' := by omega
    have htr := fun W h => s_trans n A L c l W h1 h2 hL (by omega) (by omega) hk h
    rw [decide_eq_false ht] at htr
    clear hg hL hs B0 hk ht hn h3 h4
    go_enter Tryz.func24, Tryz.ntmps24
    go_wp2_with (first
      | (go_at_call 69; refine hmv.mono ?_; rintro e w2 ⟨rfl, hb2⟩; obtain ⟨d0, d1, _, _⟩ := hB0 _ hb2)
      | (go_at_call 70; refine (htr _ (hs0.call hb2)).mono ?_; rintro e w3 ⟨rfl, hb3⟩))
    go_ret2
    exact ⟨_, rfl, nil_list, bel_call (bel_call hb0 hb2) hb3⟩
  · rw [hg] at hmv
    obtain ⟨n', hn, h1, h2, h3, h4, hk⟩ := grpB_t hg
    obtain rfl : n = n' := by omega
    have htr := fun W h => s_trans n A L c l W h1 h2 hL (by omega) (by omega) hk h
    rw [decide_eq_true ht] at htr
    have hgt : (5 : Int) < (n : Int) := by omega
    clear hg hL hs B0 hk ht hn h3 h4
    go_enter Tryz.func24, Tryz.ntmps24
    go_wp2_with (first
      | (go_at_call 69; refine hmv.mono ?_; rintro e w2 ⟨rfl, hb2⟩; obtain ⟨d0, d1, _, _⟩ := hB0 _ hb2)
      | (go_at_call 70; refine (htr _ (hs0.call hb2)).mono ?_; rintro e w3 ⟨rfl, hb3⟩; obtain ⟨e0, e1, _, _⟩ := hB0 _ (bel_call hb2 hb3)))
    go_ret2
    exact ⟨_, rfl, nil_list, bel_call (bel_call hb0 hb2) hb3⟩
  · rw [hg] at hmv
    obtain ⟨n', hn, h1, h2, h3, h4, hk⟩ := grpB_t hg
    obtain rfl : n = n' := by omega
    have htr := fun W h => s_trans n A L c l W h1 h2 hL (by omega) (by omega) hk h
    rw [decide_eq_true ht] at htr
    have hnl := fun W h => s_l24Name n k0 A L c l W h1 h5 hL (by omega) hk h hf
    have hgt : ¬ (5 : Int) < (n : Int) := by omega
    clear hg hL hs B0 hk ht hn h3 h4 hf
    go_enter Tryz.func24, Tryz.ntmps24
    go_wp2_with (first
      | (go_at_call 69; refine hmv.mono ?_; rintro e w2 ⟨rfl, hb2⟩; obtain ⟨d0, d1, _, _⟩ := hB0 _ hb2)
      | (go_at_call 70; refine (htr _ (hs0.call hb2)).mono ?_; rintro e w3 ⟨rfl, hb3⟩; have hb23 := bel_call hb2 hb3; obtain ⟨e0, e1, _, _⟩ := hB0 _ hb23; have hs3 := hs0.call hb23)
      | (go_at_call 71; refine (hnl _ hs3).mono ?_; rintro e w5 ⟨nb5, rfl, hnb5, hb5⟩))
    go_ret2
    exact ⟨_, rfl, hnb5, bel_call (bel_call hb0 hb23) hb5⟩
end Go.Proofs.YtkiglhaeiomohaaGreat

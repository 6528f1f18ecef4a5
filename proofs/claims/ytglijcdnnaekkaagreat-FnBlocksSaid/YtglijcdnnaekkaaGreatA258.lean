/- Several parts of the proof in one text; each part says what it shows. Nothing is assumed. -/
import Derived.Test.YtglijcdnnaekkaaGreatA259
import Derived.Test.YtglijcdnnaekkaaGreatA162
/- The first block of a size: the walk of the reference's search. -/
namespace Go.Proofs.YtglijcdnnaekkaaGreat
set_option linter.unusedVariables false
set_option linter.unusedSimpArgs false
open Go.RowKit

theorem tJ_snoc (pts : List Nat) (p : Nat) : ints (tJ pts) ++ [Value.int .i64 (p : Int)] = ints (tJ (pts ++ [p])) := by simp [tJ, ints]
theorem is_l01Own (A : Option Addr) (n c : Nat) (l : List Int) (w : World) (hn : n = l.length) (h0 : 0 < n) (hl : n ≤ 1048576) (hs : IS w w.heap.size A l) : Calls Tryz.prog 119 #[.slice A n c] w (MI w.heap.size n l w) := by
  obtain ⟨b, off, rfl, hb, hc⟩ := hs.at (k := 0) (by omega)
  refine s_l01Own ⟨b, off, none⟩ n c l w hn hl (fun j u hj => ?_) (fun j => by rw [Go.WideShapes.add_plain]; exact hb)
  have hjl : j < l.length := by
    have := (List.getElem?_eq_some_iff.1 hj).1
    rwa [ints_length] at this
  rw [Go.WideShapes.add_plain, hc j hjl]
  rw [← hj]
  simp [ints, gt, List.getElem?_eq_getElem hjl]
theorem last_snoc (pts : List Nat) (p : Nat) : (pts ++ [p]).getD pts.length 0 = p := by simp
set_option maxRecDepth 20000 in
set_option maxHeartbeats 4000000 in
theorem s_find (n k : Nat) (A : Option Addr) (L c0 : Nat) (l : List Int) (hn : 1 ≤ n) (hn6 : n ≤ 6) (hL : L = l.length) (h0 : 0 < L) (hl : L ≤ 1000) (hk : InK n l) (hG : PG n (memL n l)) (ht : ∀ j, j < n → ∃ a ∈ memL n l, ap a 0 = j) (hkn : k ≤ n) :
    ∀ (c : Nat) (pts : List Nat) (q m cp : Nat) (Ap : Option Addr) (w : World), m = pts.length → m + c = k → 0 < m → pts.getD 0 0 = 0 → pts.Pairwise (· < ·) → (∀ x ∈ pts, x < q + 1) → pts.getD (m - 1) 0 = q → q < n → IS w w.heap.size A l → IS w w.heap.size Ap (tJ pts) →
    Calls Tryz.prog 66 #[.agg #[.int .i64 n, .slice A L c0], .slice Ap m cp, .int .i64 k] w (MI w.heap.size (tJ (fxL (blkB (memL n l)) n c (q + 1) pts)).length (tJ (fxL (blkB (memL n l)) n c (q + 1) pts)) w) := by
  intro c
  induction c using Nat.strongRecOn with
  | _ c ih =>
  intro pts q m cp Ap w hm hmc hm0 hz hr hlt hlast hq hs hsp
  have hpn : ∀ x ∈ pts, x < n := fun x hx => by have := hlt x hx; omega
  have hpj : ∀ j, pts.getD j 0 < n := fun j => by
    by_cases hj : j < pts.length
    · exact hpn _ (by simp [List.getElem?_eq_getElem hj])
    · simp [List.getElem?_eq_none (show pts.length ≤ j by omega)]; omega
  have hblk := fun W h h' => s_l23Block n A Ap L c0 m cp l pts W hn hn6 hL h0 hl hk hG ht h hm hm0 (by omega) hpj h' 0 hz.symm
  have hrec : ∀ c', c = c' + 1 → ∀ p, q + 1 ≤ p → p < n → ∀ (A7 : Option Addr) (c7 : Nat) (W : World), IS W W.heap.size A l → IS W W.heap.size A7 (tJ (pts ++ [p])) → Calls Tryz.prog 66 #[.agg #[.int .i64 n, .slice A L c0], .slice A7 (m + 1) c7, .int .i64 k] W (MI W.heap.size (tJ (fxL (blkB (memL n l)) n c' (p + 1) (pts ++ [p]))).length (tJ (fxL (blkB (memL n l)) n c' (p + 1) (pts ++ [p]))) W) := fun c' hc p hp hpn' A7 c7 W h h' =>
    ih c' (by omega) (pts ++ [p]) p (m + 1) c7 A7 W (by rw [List.length_append, ← hm]; rfl) (by omega) (by omega) (by
      rw [List.getD_eq_getElem?_getD, List.getElem?_append_left (show 0 < pts.length by omega), ← List.getD_eq_getElem?_getD]
      exact hz)
      (List.pairwise_append.2 ⟨hr, by simp, fun a ha b hb => by
        rw [List.mem_singleton] at hb
        have := hlt a ha
        omega⟩)
      (fun x hx => by
        rcases List.mem_append.1 hx with hx | hx
        · have := hlt x hx; omega
        · rw [List.mem_singleton] at hx; omega)
      (by rw [Nat.add_sub_cancel, hm]; exact last_snoc pts p) hpn' h h'
  have hcase : ∀ cl, Cls n (memL n l) pts cl → Cong n (memL n l) cl → Tog pts cl m → ((clsN n cl 0).length = k ∧ m = k ∧ fxL (blkB (memL n l)) n c (q + 1) pts = clsN n cl 0) ∨ (¬ (clsN n cl 0).length = k ∧ k < (clsN n cl 0).length ∧ fxL (blkB (memL n l)) n c (q + 1) pts = []) ∨ ((∃ b : Bool, (((clsN n cl 0).length : Int) == (k : Int)) = b) ∧ ((m : Int) == (k : Int)) = false ∧ ¬ (k : Int) < ((clsN n cl 0).length : Int) ∧ ∃ c', c = c' + 1) := fun cl g1 g2 g3 => by
    rw [hm] at g3
    have hsub := nat_sub_len hr (tog_sub hz g3 hpn)
    by_cases e1 : k < (clsN n cl 0).length
    · exact .inr (.inl ⟨by omega, e1, fx_big hG g1 hz (by omega) hpn hr (by omega) hlt (by omega)⟩)
    · by_cases e2 : m = k
      · obtain rfl : c = 0 := by omega
        exact .inl ⟨by omega, e2, fx_block hG g1 g2 hz g3 hpn hr (q + 1) (by omega)⟩
      · exact .inr (.inr ⟨⟨_, rfl⟩, by rw [beq_eq_false_iff_ne]; omega, by omega, ⟨c - 1, by omega⟩⟩)
  have hnx := fun c' p (h : p < n) => fxL_next (bl := blkB (memL n l)) (c := c') (pts := pts) h
  have hfl := fun c' p (h : p < n) => fxL_len (n := n) (bl := blkB (memL n l)) (c := c') (f := p + 1) (pts := pts ++ [p]) (by omega) (by simp)
  have hfe := fun c' => fx_end (bl := blkB (memL n l)) (n := n) (c := c') (f := n) (pts := pts) (by omega)
  have hf0 : ∀ c', fx (blkB (memL n l)) n (c' + 1) (q + 1) pts = none → fxL (blkB (memL n l)) n (c' + 1) (q + 1) pts = [] := fun c' h => by unfold fxL; rw [h]; rfl
  have hfq : ∀ c' p, fx (blkB (memL n l)) n (c' + 1) (q + 1) pts = fx (blkB (memL n l)) n (c' + 1) p pts → fxL (blkB (memL n l)) n (c' + 1) (q + 1) pts = fxL (blkB (memL n l)) n (c' + 1) p pts := fun c' p h => by unfold fxL; rw [h]
  have hlq : gt (tJ pts) (m - 1) = (q : Int) := by rw [gt_tJ, hlast]
  have htl : (tJ pts).length = m := by rw [tJ_len, hm]
  have hsn := fun p => tJ_snoc pts p
  generalize blkB (memL n l) = bl at *
  generalize memL n l = ms at *
  obtain ⟨i0, hi, hz0, hz1, hz2⟩ := info_parts infoI64
  have hmn : m ≤ 6 := by omega
  have HREC := Lib.hid hrec
  have HCASE := Lib.hid hcase
  have HNX := Lib.hid hnx
  have HFL := Lib.hid hfl
  have HFE := Lib.hid hfe
  have HF0 := Lib.hid hf0
  have HFQ := Lib.hid hfq
  have HLQ := Lib.hid hlq
  have HTL := Lib.hid htl
  have HSN := Lib.hid hsn
  have HMC := Lib.hid hmc
  clear hrec hcase hnx hfl hfe hf0 hfq hlq htl hsn ih hm hz hr hlt hlast hpn hpj hG ht hk hL h0 hl hmc
  have B1 := BK.new w 26 #[.int .i64 (n : Int), .slice A L c0]
  obtain ⟨d0, d1, _, _⟩ := B1.two
  have hb0 := (Below.refl w.heap.size w).alloc (Nat.le_refl _) (.cells #[.int .i64 (n : Int), .slice A L c0] 26)
  have hs0 := hs.call hb0
  have hsp0 := hsp.call hb0
  have hB1 := fun W (h : Below (w.alloc (.cells #[.int .i64 (n : Int), .slice A L c0] 26)).heap.size (w.alloc (.cells #[.int .i64 (n : Int), .slice A L c0] 26)) W) => (B1.below h (by simp)).two
  clear hs hsp B1
  go_enter Tryz.func66, Tryz.ntmps66
  go_wp2_with (fail)
  refine (hblk _ hs0 hsp0).mono ?_
  rintro e w4 ⟨cl, g1, g2, g3, v4, rfl, o4, hb4⟩
  have hcs := HCASE.out cl g1 g2 g3
  generalize w.alloc (.cells #[.int .i64 (n : Int), .slice A L c0] 26) = w1 at *
  obtain ⟨A4, c4, rfl, _⟩ := own_slice' o4
  rw [tJ_len] at o4 ⊢
  have hz1' := hb0.size
  clear hblk g1 g2 g3 d0 d1 HCASE
  generalize clsN n cl 0 = K at *
  generalize hKL : K.length = KL at *
  have HKL := Lib.hid hKL
  clear hKL
  rcases hcs with ⟨rfl, e2, e3⟩ | ⟨e1, e2, e3⟩ | ⟨⟨b, e1⟩, e2, e3, c', rfl⟩
  · subst e2
    have HE := Lib.hid e3
    clear e3
    go_wp2_with (fail)
    go_ret
    exact ⟨_, rfl, by rw [HE.out, tJ_len, HKL.out]; exact own_mono o4 hz1', bel_call hb0 hb4⟩
  · have e4 : ((KL : Int) == (k : Int)) = false := by rw [beq_eq_false_iff_ne]; omega
    have e5 : (k : Int) < (KL : Int) := by omega
    have HE := Lib.hid e3
    clear e1 e2 e3
    go_wp2_with (fail)
    go_ret
    exact ⟨_, rfl, by rw [HE.out]; exact World.ownsRow_nil _ _ _ _, bel_call hb0 hb4⟩
  · have hsp4 := hsp0.call hb4
    have hs4 := hs0.call hb4
    obtain ⟨pb, po, rfl, hpb, hpc⟩ := hsp4.at (k := 0) (by rw [HTL.out]; exact hm0)
    have e6 := hpc (m - 1) (by rw [HTL.out]; omega)
    rw [HLQ.out] at e6
    have hs1 : IntKind.i64.wrap ((m : Int) - 1) = (m : Int) - 1 := IntWalk.i64_in _ (by omega)
    have hs2 : ((m : Int) - 1).toNat = m - 1 := by omega
    have hs3 : 1 ≤ (m : Int) := by omega
    have hs5 : (m : Int) - 1 < m := by omega
    have hs6 : 0 ≤ (m : Int) - 1 := by omega
    have hm1 := HMC.out
    clear o4 hpc hsp0 hs0
    cases b
    all_goals
      go_wp2_with (fail)
      go_loopw [8] (fun u8 wr => ∃ p : Nat, q + 1 ≤ p ∧ p ≤ n ∧ u8 = .int .i64 p ∧ Hid (fx bl n (c' + 1) (q + 1) pts = fx bl n (c' + 1) p pts) ∧ Below w4.heap.size w4 wr) (fun u8 _ => n - (intOf u8).toNat)
      case atStart => exact ⟨q + 1, Nat.le_refl _, hq, by go_num, rfl, Below.refl _ _⟩
      case round =>
        obtain ⟨ws, rfl⟩ : ∃ ws : World, ws = wr := ⟨_, rfl⟩
        obtain ⟨p, hp1, hp2, rfl, HI, hb⟩ := hrel
        have hsz := hb.size
        have bw := bel_call hb4 hb
        obtain ⟨d0, d1, _, _⟩ := hB1 _ bw
        by_cases hlt : p < n
        · have hspw := hsp4.call hb
          have hsw := hs4.call hb
          have hnx := HNX.out c' p hlt
          have hfl := HFL.out c' p hlt
          have hrc := HREC.out c' rfl p hp1 hlt
          have hfq := HFQ.out c' p HI.out
          have hsn := HSN.out p
          have htl2 : m + 1 = (tJ (pts ++ [p])).length := by rw [tJ_len, List.length_append, ← tJ_len pts, HTL.out]; rfl
          have HN1 := Lib.hid (fun h => HI.out.trans (hnx.1 h))
          have HN2 := Lib.hid (fun h => hfq.trans (hnx.2 h))
          simp only [tJ_len] at hrc
          generalize fxL bl n c' (p + 1) (pts ++ [p]) = O at *
          generalize hOL : O.length = b8 at *
          have HO := Lib.hid hOL
          have HFLH := Lib.hid hfl
          have HTL2 := Lib.hid htl2
          have hown := fun W (h : IS W W.heap.size (some ⟨pb, po, none⟩) (tJ pts)) => is_l01Own (some ⟨pb, po, none⟩) m cp (tJ pts) W HTL.out.symm hm0 (by omega) h
          have hbl : Below ws.drew.heap.size ws.drew (ws.drew.alloc (.cells #[.int .i64 (p : Int)] 2)) := (Below.refl _ _).alloc (Nat.le_refl _) _
          have HSB := Lib.hid (show (ws.drew.alloc (.cells #[.int .i64 (p : Int)] 2)).heap.size = ws.heap.size + 1 from World.size_alloc _ _)
          have hcA := hown ws.drew (hspw.drewN 1)
          have hcB := hown (ws.drew.alloc (.cells #[.int .i64 (p : Int)] 2)) (IS.call (w := ws.drew) (hspw.drewN 1) hbl)
          obtain ⟨a0, a1, _, _⟩ := hB1 _ (bw.alloc bw.size (.cells #[.int .i64 (p : Int)] 2))
          clear hnx hfl hfq hOL htl2 hown e6
          go_wp2_with (fail)
          go_region_law
            (first
              | ((refine step_append_own (by rfl) (.tmp 43) (.tmp 45) 24 (by rfl) ws.heap.size 2 i0 (.int .i64 0) 1 8 Tryz.underlying24 hi hz0 hz1 hz2 rfl (by omega) (.slice Ao m co) m (ints (tJ pts)) (by rfl) (World.ownsRow.alloc (own_mono (base' := ws.heap.size) hoo (Nat.le_refl _)) _) ⟨w6.heap.size, 0, none⟩ 1 1 [.int .i64 p] (by rfl) (by rfl) (fun j u hj => one_src w6 _ _ _ rfl j u hj) (by intro u hu; simp at hu; subst hu; rfl) (by simp only [maxLen]; omega) (by omega) (by have := hbo.size; have : ws.heap.size ≤ w6.heap.size := this; simp; omega) ?_; intro v7 w7 hown7 hg7 hat7; have hb7 := Below.grown ((undrew (n := 1) hbo).alloc (undrew (n := 1) hbo).size _) hg7 (by have := (undrew (n := 1) hbo).size; simp; omega) (fun x7 hx7 => (hoo.lt x7 hx7).1); rw [hsn] at hown7; obtain ⟨A7, c7, rfl, _⟩ := own_slice' hown7; obtain ⟨f4, f5, _, _⟩ := hB1 _ (bel_call bw hb7)))
              | ((refine step_append_own (by rfl) (.tmp 43) (.tmp 45) 24 (by rfl) ws.heap.size 2 i0 (.int .i64 0) 1 8 Tryz.underlying24 hi hz0 hz1 hz2 rfl (by omega) (.slice Ao m co) m (ints (tJ pts)) (by rfl) (own_mono (base' := ws.heap.size) hoo (by rw [HSB.out]; omega)) ⟨ws.heap.size, 0, none⟩ 1 1 [.int .i64 p] (by rfl) (by rfl) (fun j u hj => (hbo.cell (p := (⟨ws.heap.size, 0, none⟩ : Addr).add j) (by rw [Go.WideShapes.add_plain]; simp)).trans (one_src ws.drew (.int .i64 p) 2 _ rfl j u hj)) (by intro u hu; simp at hu; subst hu; rfl) (by simp only [maxLen]; omega) (by omega) (by have h1 := hbo.size; rw [HSB.out] at h1; omega) ?_; intro v7 w7 hown7 hg7 hat7; have hb6 : Below ws.heap.size ws w6 := undrew (n := 1) (bel_call hbl hbo); have hb7 := hb6.grown hg7 hb6.size (fun x7 hx7 => by have h3 := (hoo.lt x7 hx7).1; rw [HSB.out] at h3; omega); rw [hsn] at hown7; obtain ⟨A7, c7, rfl, _⟩ := own_slice' hown7; obtain ⟨f4, f5, _, _⟩ := hB1 _ (bel_call bw hb7)))
              | (go_simp; go_at_call 119; first | (refine hcA.mono ?_; rintro e w6 ⟨v6, rfl, hoo, hbo⟩; obtain ⟨Ao, co, rfl, _⟩ := own_slice' hoo; have hbx := bel_call (below_drewN bw 1) hbo; obtain ⟨f0, f1, _, _⟩ := hB1 _ hbx; obtain ⟨f2, f3, _, _⟩ := hB1 _ (hbx.alloc hbx.size (.cells #[.int .i64 (p : Int)] 2))) | (refine hcB.mono ?_; rintro e w6 ⟨v6, rfl, hoo, hbo⟩; obtain ⟨Ao, co, rfl, _⟩ := own_slice' hoo; have hbx := bel_call (bel_call (below_drewN bw 1) hbl) hbo; obtain ⟨f0, f1, _, _⟩ := hB1 _ hbx))
              | (go_simp; go_at_call 66; refine (hrc A7 c7 w7 (hsw.call hb7) (own_isn hown7 HTL2.out)).mono ?_; rintro e w8 ⟨v8, rfl, o8, hb8⟩; obtain ⟨A8, c8, rfl, _⟩ := own_slice' o8))
          all_goals
            have hz7 := hb7.size
            have b8w := hb7.trans (hb8.mono hz7)
            by_cases hO0 : b8 = 0
            · have HX := Lib.hid (HN1.out (HFLH.out.1 hO0))
              subst hO0
              go_wp2_with (fail)
              go_roundw
              case rel => exact ⟨p + 1, by omega, by omega, by go_num, HX.out, hb.trans (b8w.mono hsz)⟩
              case measure => simp [intOf]; omega
            · have HX := Lib.hid (HN2.out (fun h => hO0 (HFLH.out.2 h)))
              have hpos : 0 < b8 := by omega
              go_wp2_with (fail)
              go_ret
              exact ⟨_, rfl, by rw [HX.out, tJ_len, HO.out]; exact own_mono o8 (by have := bw.size; omega), bel_call hb0 (bel_call bw b8w)⟩
        · obtain rfl : p = n := by omega
          have HX := Lib.hid (HF0.out c' (HI.out.trans (HFE.out c')))
          go_wp2_with (fail)
          go_ret
          exact ⟨_, rfl, by rw [HX.out]; exact World.ownsRow_nil _ _ _ _, bel_call hb0 bw⟩
end Go.Proofs.YtglijcdnnaekkaaGreat
/- The images of a block, in order: the walk of the reference. -/
namespace Go.Proofs.YtglijcdnnaekkaaGreat
set_option linter.unusedVariables false
set_option linter.unusedSimpArgs false
open Go.RowKit

theorem RowsO.ins {w : World} {base : Nat} {vs : List Value} {ll : List (List Int)} {v : Value} {l : List Int} (h : RowsO w base vs ll) (hr : OwnI w base v l) (hne : ∀ i, i < vs.length → (gv vs i).ownBlock = none ∨ (gv vs i).ownBlock ≠ v.ownBlock) {a : Nat} (ha : a ≤ ll.length) : RowsO w base (vs.take a ++ [v] ++ vs.drop a) (ll.take a ++ [l] ++ ll.drop a) := by
  have hl := h.1
  have h1 : (vs.take a).length = a := by rw [List.length_take]; omega
  have h2 : (ll.take a).length = a := by rw [List.length_take]; omega
  refine RowsO.perm (fun k => if k < a then k else if k = a then vs.length else if k ≤ vs.length then k - 1 else k) (h.snoc hr hne) (by simp; omega) (by simp; omega) (fun k hk => ?_) (fun k hk => ?_) (fun k hk => ?_) (fun x y e => ?_)
  · rw [List.length_append, List.length_singleton] at hk
    rw [gv_app, gv_app, gv_app, List.length_append, h1, List.length_singleton]
    try rw [← hl]
    by_cases e1 : k < a
    · have e3 : k < a + 1 := by omega
      have e4 : k < vs.length := by omega
      simp only [e1, e3, e4, if_true]
      exact gv_take e1
    · by_cases e2 : k = a
      · have e3 : k < a + 1 := by omega
        have e5 : ¬ vs.length < vs.length := by omega
        simp only [e1, e3, if_true, if_false, e2, Nat.sub_self, Nat.lt_irrefl, Nat.lt_succ_self]
      · have e3 : ¬ k < a + 1 := by omega
        have e4 : k ≤ vs.length := by omega
        have e5 : k - 1 < vs.length := by omega
        simp only [e1, e2, e3, e4, e5, if_true, if_false]
        rw [gv_drop]
        congr 1; omega
  · rw [List.length_append, List.length_singleton] at hk
    rw [gl_app, gl_app, gl_app, List.length_append, h2, List.length_singleton]
    try rw [← hl]
    by_cases e1 : k < a
    · have e3 : k < a + 1 := by omega
      have e4 : k < vs.length := by omega
      simp only [e1, e3, e4, if_true]
      exact gl_take e1
    · by_cases e2 : k = a
      · have e3 : k < a + 1 := by omega
        have e5 : ¬ vs.length < vs.length := by omega
        simp only [e1, e3, if_true, if_false, e2, Nat.sub_self, Nat.lt_irrefl, Nat.lt_succ_self]
      · have e3 : ¬ k < a + 1 := by omega
        have e4 : k ≤ vs.length := by omega
        have e5 : k - 1 < vs.length := by omega
        simp only [e1, e2, e3, e4, e5, if_true, if_false]
        rw [gl_drop]
        congr 1; omega
  · rw [List.length_append, List.length_singleton] at hk ⊢
    split
    · omega
    · split
      · omega
      · split <;> omega
  · split at e <;> (try split at e) <;> (try split at e) <;> (try split at e) <;> (try split at e) <;> (try split at e) <;> omega
set_option maxRecDepth 20000 in
set_option maxHeartbeats 4000000 in
theorem s_images (n : Nat) (A Ap : Option Addr) (L c0 m cp : Nat) (l : List Int) (B : List Nat) (w : World) (hn : 1 ≤ n) (hn6 : n ≤ 6) (hL : L = l.length) (hl : L ≤ 1000) (hk : InK n l) (hG : PG n (memL n l)) (hm : m = B.length) (hm0 : 0 < m) (hm6 : m ≤ 6) (hr : B.Pairwise (· < ·)) (hnB : ∀ x ∈ B, x < n) (hs : IS w w.heap.size A l) (hsp : IS w w.heap.size Ap (tJ B)) :
    Calls Tryz.prog 67 #[.agg #[.int .i64 n, .slice A L c0], .slice Ap m cp] w (fun e w' => ∃ A' m' c' vs, m' = (imS ((memL n l).map fun a => imgL a (tJ B)) L).length ∧ e = .returned (.slice A' m' c') ∧ w'.ownsRow w.heap.size 24 1 (.slice A' m' c') m' vs ∧ RowsO w' w.heap.size vs (imS ((memL n l).map fun a => imgL a (tJ B)) L) ∧ Below w.heap.size w w') := by
  have hmb := fun W h => s_elements n A L c0 l W hn hn6 hL (by omega) hk h
  have hmi := mem_InR hk hL
  have hml := memL_len n l
  rw [← hL] at hml
  have himl : ((memL n l).map fun a => imgL a (tJ B)).length = L := by rw [List.length_map, hml]
  have hgi : ∀ i, i < L → gl ((memL n l).map fun a => imgL a (tJ B)) i = imgL (gl (memL n l) i) (tJ B) := fun i h => by
    have h' : i < (memL n l).length := by omega
    simp [gl, List.getElem?_eq_getElem h']
  have hfl : ∀ i, i < L → lsL (fgS n (flI (gl (memL n l) i) (tJ B)) m) = gl ((memL n l).map fun a => imgL a (tJ B)) i := fun i h => by
    rw [hgi i h, hm]
    exact flI_listed hG hr hnB (gl_mem (by omega))
  have htl : (tJ B).length = m := by rw [tJ_len, hm]
  have hst : ∀ i k, k < m → fgS n (flI (gl (memL n l) i) (tJ B)) (k + 1) = (fgS n (flI (gl (memL n l) i) (tJ B)) k).set (gt (gl (memL n l) i) (gt (tJ B) k).toNat).toNat true := fun i k h => by rw [fgS, flI_gt (by omega)]
  have hbn : ∀ k, k < m → 0 ≤ gt (tJ B) k ∧ gt (tJ B) k < (n : Int) := fun k h => by
    obtain ⟨p, hp, e⟩ := mem_tJ.1 (gt_mem (xs := tJ B) (k := k) (by omega))
    have := hnB p hp
    omega
  have hlen : ∀ i, i < L → (gl ((memL n l).map fun a => imgL a (tJ B)) i).length = m := fun i h => by rw [hgi i h, img_len, htl]
  have hrl : ∀ i, i ≤ L → ∀ j, j < (imS ((memL n l).map fun a => imgL a (tJ B)) i).length → (gl (imS ((memL n l).map fun a => imgL a (tJ B)) i) j).length = m := fun i h j hj => by
    obtain ⟨k, hk', e⟩ := (imS_mem _ _ i (by omega)).1 (gl_mem hj)
    rw [← e]
    exact hlen k (by omega)
  have hat : ∀ i a, a ≤ (imS ((memL n l).map fun a => imgL a (tJ B)) i).length → (∀ j, j < a → gt (gl (imS ((memL n l).map fun a => imgL a (tJ B)) i) j) 0 < gt (gl ((memL n l).map fun a => imgL a (tJ B)) i) 0) → (a < (imS ((memL n l).map fun a => imgL a (tJ B)) i).length → ¬ gt (gl (imS ((memL n l).map fun a => imgL a (tJ B)) i) a) 0 < gt (gl ((memL n l).map fun a => imgL a (tJ B)) i) 0) → imS ((memL n l).map fun a => imgL a (tJ B)) (i + 1) = if a = (imS ((memL n l).map fun a => imgL a (tJ B)) i).length ∨ gl (imS ((memL n l).map fun a => imgL a (tJ B)) i) a ≠ gl ((memL n l).map fun a => imgL a (tJ B)) i then (imS ((memL n l).map fun a => imgL a (tJ B)) i).take a ++ gl ((memL n l).map fun a => imgL a (tJ B)) i :: (imS ((memL n l).map fun a => imgL a (tJ B)) i).drop a else imS ((memL n l).map fun a => imgL a (tJ B)) i := fun i a h1 h2 h3 => inF_at h1 h2 h3
  have hil := imS_len ((memL n l).map fun a => imgL a (tJ B))
  generalize ((memL n l).map fun a => imgL a (tJ B)) = ims at *
  generalize memL n l = ll at *
  have hfn := fun i => fgS_len n (flI (gl ll i) (tJ B))
  generalize tJ B = pts at *
  have hbb0 : ∀ (W : World) (i : Nat), BB (W.alloc (.cells (madeCells #[.bool false] n) 4)) W.heap.size (fgS n (flI (gl ll i) pts) 0) := fun W i => BB.new W n
  have hmk := fun W => run_make_row' (P := Tryz.prog) 128 4 (.bool false) 1 Tryz.underlying128 infoBool rfl .i64 .i64 n (by omega) (by omega) W
  obtain ⟨i0, hi, hy0, hy1, hy2⟩ := info_parts infoSl
  have B1 := BK.new w 26 #[.int .i64 (n : Int), .slice A L c0]
  obtain ⟨d0, d1, _, _⟩ := B1.two
  have hb0 := (Below.refl w.heap.size w).alloc (Nat.le_refl _) (.cells #[.int .i64 (n : Int), .slice A L c0] 26)
  have hs0 := hs.call hb0
  have hsp0 := hsp.call hb0
  have hB1 := fun W (h : Below (w.alloc (.cells #[.int .i64 (n : Int), .slice A L c0] 26)).heap.size (w.alloc (.cells #[.int .i64 (n : Int), .slice A L c0] 26)) W) => (B1.below h (by simp)).two
  have HMI := Lib.hid hmi
  have HML := Lib.hid hml
  have HFL := Lib.hid hfl
  have HST := Lib.hid hst
  have HTL := Lib.hid htl
  have HBN := Lib.hid hbn
  have HLEN := Lib.hid hlen
  have HRL := Lib.hid hrl
  have HAT := Lib.hid hat
  have HIL := Lib.hid hil
  have HFN := Lib.hid hfn
  clear hmi hml hL hk hs hsp hfl hst htl hbn hlen hrl hat hil hfn himl hgi B1 hG hm hr hnB
  go_enter Tryz.func67, Tryz.ntmps67
  go_wp2_with (go_at_call 132; refine (hmb _ hs0).mono ?_; rintro e w2 ⟨A2, c2, vs, rfl, ho2, hr2, hb2⟩; rw [HML.out] at ho2 ⊢)
  have hii := OwnII.ii ho2 hr2
  have hsp2 := hsp0.call hb2
  generalize w.alloc (.cells #[.int .i64 (n : Int), .slice A L c0] 26) = w1 at *
  have hz1 := hb0.size
  have hz2 := hb2.size
  clear ho2 hr2 hs0 hsp0 d0 d1 hmb
  go_loopw [6, 7] (fun u6 u7 wr => ∃ (i g m6 co : Nat) (vo : List Value), i ≤ L ∧ u7 = .int .i64 i ∧ u6 = .slice (some ⟨g, 0, none⟩) m6 co ∧ Hid (m6 = (imS ims i).length) ∧ wr.ownsRow w2.heap.size 24 1 (.slice (some ⟨g, 0, none⟩) m6 co) m6 vo ∧ RowsO wr w2.heap.size vo (imS ims i) ∧ Below w2.heap.size w2 wr) (fun _ u7 _ => L - (intOf u7).toNat)
  case atStart => exact ⟨0, w2.heap.size, 0, 0, [], Nat.zero_le _, rfl, rfl, rfl, World.ownsRow_lit w2 #[] 0 (Nat.le_refl _) (by simp [maxLen]) rfl, RowsO.nil _ _, (Below.refl _ _).alloc (Nat.le_refl _) _⟩
  case round =>
    obtain ⟨ws, rfl⟩ : ∃ ws : World, ws = wr := ⟨_, rfl⟩
    obtain ⟨i, g, m6, co, vo, hi', rfl, rfl, HM6, hown, hrows, hb⟩ := hrel
    have hsz := hb.size
    have hbw := bel_call hb2 hb
    obtain ⟨d0, d1, _, _⟩ := hB1 _ hbw
    by_cases hlt : i < L
    · have hlen := HLEN.out i hlt
      have hfl := HFL.out i hlt
      have hrl := HRL.out i hi'
      have hat := HAT.out i
      have hil := HIL.out i
      have hst := HST.out i
      have hfn := HFN.out i
      have hR := HMI.out i hlt
      have hbb := hbb0 ws i
      have hmks := hmk ws
      have hil' : i < ll.length := by rw [HML.out]; exact hlt
      obtain ⟨rb, roff, rfl, hrb, hrc⟩ := hii.at hil'
      obtain ⟨Ac, cc, e1, _, _, his⟩ := hrc i hil'
      rw [hR.1] at e1
      have hra := hR.2
      have hral := hR.1
      generalize gl ll i = a at *
      generalize fgS n (flI a pts) = fl at *
      rw [← HM6.out] at hil hat hrl
      have HAT2 := Lib.hid hat
      have HRL2 := Lib.hid hrl
      have HST2 := Lib.hid hst
      have HFN2 := Lib.hid hfn
      have HFL2 := Lib.hid hfl
      have HLEN2 := Lib.hid hlen
      have HRA := Lib.hid hra
      have HRAL := Lib.hid hral
      have hbg := (Below.refl ws.heap.size ws).alloc (Nat.le_refl _) (.cells (madeCells #[.bool false] n) 4)
      clear hat hrl hst hfn hfl hlen hR hra hral hrc hii
      go_wp2_with (fail)
      go_loopw [9] (fun u9 wr => ∃ k : Nat, k ≤ m ∧ u9 = .int .i64 k ∧ BB wr ws.heap.size (fl k) ∧ Below ws.heap.size ws wr) (fun u9 _ => m - (intOf u9).toNat)
      case atStart => exact ⟨0, Nat.zero_le _, rfl, hbb, hbg⟩
      case round =>
        obtain ⟨wt, rfl⟩ : ∃ wt : World, wt = wr := ⟨_, rfl⟩
        obtain ⟨k, hk, rfl, hbk, hbt⟩ := hrel
        clear hbb hbg hmks
        have hszt := hbt.size
        have hbw2 := hb.trans (hbt.mono hsz)
        by_cases hltk : k < m
        · obtain ⟨pb, po, rfl, hpb, hpc⟩ := hsp2.at (k := k) (by rw [HTL.out]; exact hltk)
          have e2 := (hbw2.cell (p := ⟨pb, po + k, none⟩) hpb).trans (hpc k (by rw [HTL.out]; exact hltk))
          have e1' := (hbw2.cell (p := ⟨rb, roff + i, none⟩) hrb).trans e1
          have hbnk := HBN.out k hltk
          have hst := HST2.out k hltk
          obtain ⟨q, hq⟩ := Int.eq_ofNat_of_zero_le hbnk.1
          rw [hq] at e2 hst hbnk
          rw [Int.toNat_natCast] at hst
          have hqn : q < n := by omega
          obtain ⟨r1, r2⟩ := HRA.out q hqn
          obtain ⟨ab, ao, rfl, hab, hac⟩ := his.at (k := q) (by rw [HRAL.out]; exact hqn)
          have e3 := (hbw2.cell (p := ⟨ab, ao + q, none⟩) hab).trans (hac q (by rw [HRAL.out]; exact hqn))
          obtain ⟨r, hr⟩ := Int.eq_ofNat_of_zero_le r1
          rw [hr] at e3 hst r2
          rw [Int.toNat_natCast] at hst
          have hrn : r < n := by omega
          have hrl : r < (fl k).length := by rw [HFN2.out]; exact hrn
          obtain ⟨e4, e5⟩ := hbk.cell hrl
          have hset := (hbk.drewN 1).set hrl
          rw [← hst] at hset
          have HSET := Lib.hid hset
          generalize hFk : fl (k + 1) = FK at *
          have HFK := Lib.hid hFk
          clear hset hst hrl hFk hr hq hpc hac r1 r2 hbnk e1 his hmk hbb0 hown hrows
          go_wp2_with (fail)
          go_still_tail 12, (by kernel_rfl)
          change wpList _ _ _ _ _ wt.drew
          go_wp2_with (fail)
          go_roundw
          case rel => exact ⟨k + 1, by omega, by go_num, by rw [HFK.out]; exact HSET.out, (below_drewN hbt 1).setCell (Nat.le_refl _) _⟩
          case measure => simp [intOf]; omega
        · obtain rfl : k = m := by omega
          have hls := s_listed ws.heap.size n n (fl k) wt (HFN2.out k).symm (by omega) hbk
          rw [HFL2.out] at hls
          have hAT := HAT2.out
          clear e1 his hmk hbb0
          generalize gl ims i = im at *
          have HAT3 := Lib.hid hAT
          have HRL3 := Lib.hid HRL2.out
          clear hAT
          generalize imS ims i = out at *
          go_wp2_with (go_at_call 136; refine hls.mono ?_; rintro e w10 ⟨v10, rfl, ho10, hb10⟩; obtain ⟨Ax, cx, rfl, _⟩ := own_slice' ho10; rw [HLEN2.out] at ho10 ⊢)
          have hown10 := own_below (own_below hown hbt) hb10
          have hrows10 := (hrows.below hbt).below hb10
          have hisx := own_isn ho10 HLEN2.out.symm
          obtain ⟨xb, xo, rfl, hxb, hxc⟩ := hisx.at (k := 0) (by rw [HLEN2.out]; exact hm0)
          have x0 := hxc 0 (by rw [HLEN2.out]; exact hm0)
          rw [Nat.add_zero] at x0
          have hb10' := hbw2.trans (hb10.mono hbw2.size)
          have hvl : vo.length = m6 := by rw [hrows10.1]; exact HM6.out.symm
          have hxI : OwnI w10 w2.heap.size (.slice (some ⟨xb, xo, none⟩) k cx) im := by
            unfold OwnI
            rw [HLEN2.out]
            exact own_mono ho10 (by omega)
          have HINSA := Lib.hid (show ∀ t, t ≤ m6 → ∀ W, DR w10 W → RowsO W w2.heap.size (vo.take t ++ [.slice (some ⟨xb, xo, none⟩) k cx] ++ vo.drop t) (out.take t ++ [im] ++ out.drop t) from fun t ht W hW => by
            obtain ⟨d, rfl⟩ := hW
            exact (RowsO.ins hrows10 hxI (fresh_ne (hrows.below hbt) (fun g hg => (ho10.lt g hg).1)) (by rw [← HM6.out]; exact ht)).drewN d)
          have HFIN := Lib.hid (show ∀ W, DR w10 W → W.ownsRow w2.heap.size 24 1 (.slice (some ⟨g, 0, none⟩) m6 co) m6 vo ∧ RowsO W w2.heap.size vo out ∧ Below w2.heap.size w2 W from fun W hW => by
            obtain ⟨d, rfl⟩ := hW
            exact ⟨own_dr hown10 d, hrows10.drewN d, below_drewN hb10' d⟩)
          have HONE := Lib.hid (show ∀ u ∈ vo, u.oneCell' = true from fun u hu => by
            obtain ⟨j, hj, e⟩ := List.mem_iff_getElem.1 hu
            obtain ⟨Aj, cj, ej, _⟩ := own_slice' (hrows10.2.1 j hj)
            have e2 : gv vo j = u := by simp [gv, List.getElem?_eq_getElem hj, e]
            rw [← e2, ej]; rfl)
          have hm6 : m6 ≤ 1000 := by omega
          clear hxc hls hown hrows hbk hxI
          have hz10 := hb10.size
          go_wp2_with (fail)
          go_loopw [11] (fun u11 wr => ∃ t : Nat, t ≤ m6 ∧ u11 = .int .i64 t ∧ Hid (∀ j, j < t → gt (gl out j) 0 < gt im 0) ∧ DR w10 wr) (fun u11 _ => m6 - (intOf u11).toNat)
          case atStart => exact ⟨0, Nat.zero_le _, rfl, fun j hj => by omega, DR.refl _⟩
          case round =>
            obtain ⟨t, ht, rfl, HT, hdr⟩ := hrel
            by_cases htm : t < m6
            · have c1 := own_hsrc hown10 ⟨g, 0, none⟩ rfl t _ (gv_at (vs := vo) (i := t) (by omega))
              rw [Go.WideShapes.add_plain, Nat.zero_add] at c1
              have hry := hrows10.2.1 t (by omega)
              have hly := HRL3.out t htm
              obtain ⟨Ay, cy, hvy, _⟩ := own_slice' hry
              rw [hvy] at c1 hry
              have hisy := hry.is rfl
              rw [hly] at c1
              obtain ⟨yb, yo, rfl, hyb, hyc⟩ := hisy.at (k := 0) (by rw [hly]; exact hm0)
              have y0 := hyc 0 (by rw [hly]; exact hm0)
              rw [Nat.add_zero] at y0
              have c1' := (hdr.cell ⟨g, t, none⟩).trans c1
              have x0' := (hdr.cell ⟨xb, xo, none⟩).trans x0
              have y0' := (hdr.cell ⟨yb, yo, none⟩).trans y0
              have hisyR : IS wr w10.heap.size (some ⟨yb, yo, none⟩) (gl out t) := by obtain ⟨d, rfl⟩ := hdr; exact hisy.drewN d
              have hisxR : IS wr w10.heap.size (some ⟨xb, xo, none⟩) im := by obtain ⟨d, rfl⟩ := hdr; exact hisx.drewN d
              have hsame := fun m => s_same (some ⟨yb, yo, none⟩) (some ⟨xb, xo, none⟩) k cy k cx (gl out t) im (wr.drewN m) _ _ hly.symm HLEN2.out.symm (by omega) (by omega) (hisyR.drewN m) (hisxR.drewN m)
              by_cases hcmp : gt (gl out t) 0 < gt im 0
              · have HT2 := Lib.hid (show ∀ j, j < t + 1 → gt (gl out j) 0 < gt im 0 from fun j hj => by
                  by_cases e : j = t
                  · subst e; exact hcmp
                  · exact HT.out j (by omega))
                clear hsame hisyR hisxR hisy hry hvy hyc hly
                go_wp2_with (go_quiet (fail))
                go_roundw
                case rel => exact ⟨t + 1, by omega, by go_num, HT2.out, hdr.step _⟩
                case measure => simp [intOf]; omega
              · have hE4 := HAT3.out t ht HT.out (fun _ => Int.not_lt.1 hcmp)
                have htf : ((t : Int) == (m6 : Int)) = false := by rw [beq_eq_false_iff_ne]; omega
                by_cases heq : gl out t = im
                · rw [if_neg (fun h => h.elim (fun h => absurd h (by omega)) (fun h => h heq))] at hE4
                  rw [decide_eq_true heq] at hsame
                  have HE := Lib.hid hE4
                  clear hE4 heq hisyR hisxR hisy hry hvy hyc hly
                  go_wp2_with (first | (go_at_call 99; refine (hsame _).mono ?_; rintro e w11 ⟨rfl, n2, rfl⟩) | go_quiet (fail))
                  go_roundw
                  case rel =>
                    obtain ⟨q1, q2, q3⟩ := HFIN.out _ (hdr.step _)
                    exact ⟨i + 1, g, m6, co, vo, by omega, by go_num, rfl, by rw [HE.out]; exact HM6.out, q1, by rw [HE.out]; exact q2, q3⟩
                  case measure => simp [intOf]; omega
                · rw [if_pos (.inr heq)] at hE4
                  rw [decide_eq_false heq] at hsame
                  clear heq hisyR hisxR hisy hry hvy hyc hly
                  go_wp2_with (first | (go_at_call 99; refine (hsame _).mono ?_; rintro e w11 ⟨rfl, n2, rfl⟩) | go_quiet (fail))
                  have hdrT : DR w10 (wr.drewN (nq + n2)) := hdr.step _
                  have HINS0 := HINSA.out t ht _ hdrT
                  have hoT := (HFIN.out _ hdrT).1
                  have hbT := (HFIN.out _ hdrT).2.2
                  generalize wr.drewN (nq + n2) = wt at *
                  have hico := (own_cap hoT).1
                  have hcoM := (own_cap hoT).2
                  have hzT := hbT.size
                  have hgT := (hoT.lt g rfl).2
                  have htk : (vo.take t).length = t := by rw [List.length_take]; omega
                  have hdp : (vo.drop t).length = m6 - t := by rw [List.length_drop]; omega
                  have HTK := Lib.hid htk
                  have HDP := Lib.hid hdp
                  have HE := Lib.hid (show imS ims (i + 1) = out.take t ++ [im] ++ out.drop t by rw [hE4]; simp)
                  have HEL := Lib.hid (show m6 + 1 = (out.take t ++ [im] ++ out.drop t).length by have := HM6.out; simp; omega)
                  have hxone : (Value.slice (some ⟨xb, xo, none⟩) k cx).oneCell' = true := rfl
                  clear htk hdp
                  have hsB : ∀ W : World, Below wt.heap.size wt W → ∀ j u, vo[j]? = some u → W.cell? ⟨g, j, none⟩ = some u := fun W hW j u hj => by
                    have h9 := World.ownsRow.cells (own_below hoT hW) (g := g) rfl j u hj
                    rw [Go.WideShapes.add_plain] at h9
                    simpa using h9
                  have hs1 : ∀ W : World, Below wt.heap.size wt W → ∀ j u, (vo.take t)[j]? = some u → W.cell? ((⟨g, 0, none⟩ : Addr).add j) = some u := fun W hW j u hj => by
                    rw [Go.WideShapes.add_plain, Nat.zero_add]
                    rw [List.getElem?_take] at hj
                    split at hj
                    · exact hsB W hW j u hj
                    · cases hj
                  have p1 : t ≤ co := by omega
                  have p2 : (t : Int) ≤ (co : Int) := by omega
                  have p3 : (t : Int) ≤ (m6 : Int) := by omega
                  have hmx : m6 + 1 ≤ maxLen := by simp only [maxLen]; omega
                  have HINS := Lib.hid HINS0
                  clear HINS0
                  by_cases hca : co = t
                  · have hia : m6 = t := by omega
                    subst hca
                    have hs3 : ∀ W : World, Below wt.heap.size wt W → ∀ j u, (vo.drop co)[j]? = some u → W.cell? ((⟨g, 0, none⟩ : Addr).add j) = some u := fun W hW j u hj => by
                      rw [List.getElem?_eq_none (by rw [HDP.out]; omega)] at hj; cases hj
                    subst hia
                    go_wp2_with (fail)
                    go_region_law
                      (first
                        | ((refine step_append_own (by rfl) (.tmp 82) (.tmp 85) 29 (by rfl) wt.heap.size 24 i0 (.slice none 0 0) 1 24 Tryz.underlying29 hi hy0 hy1 hy2 rfl (by omega) v8 (m6 + 1) (vo.take m6 ++ [.slice (some ⟨xb, xo, none⟩) k cx]) (by rfl) hown8 ⟨g, 0, none⟩ 0 0 (vo.drop m6) (by rfl) (by rw [Nat.mul_one]; exact (by rw [HDP.out]; omega)) (hs3 _ hb8) (fun u hu => HONE.out u (List.mem_of_mem_drop hu)) (by have := hmx; omega) (by omega) hb8.size ?_; intro v9 w9 hown9 hg9 hat9; have hb9 := hb8.grown hg9 hb8.size (fun g' hg' => (hown8.lt g' hg').1)))
                        | ((refine step_append_own (by rfl) (.tmp 79) (.tmp 81) 29 (by rfl) wt.heap.size 24 i0 (.slice none 0 0) 1 24 Tryz.underlying29 hi hy0 hy1 hy2 rfl (by omega) v7 m6 (vo.take m6) (by rfl) (World.ownsRow.alloc hown7 _) ⟨w7.heap.size, 0, none⟩ 1 1 [.slice (some ⟨xb, xo, none⟩) k cx] (by rfl) (by rfl) (fun j u hj => one_src w7 (.slice (some ⟨xb, xo, none⟩) k cx) 24 _ rfl j u hj) (by intro u hu; simp at hu; subst hu; exact hxone) (by have := hmx; omega) (by omega) (by have := hb7.size; simp; omega) ?_; intro v8 w8 hown8 hg8 hat8; have hb8 := (hb7.alloc hb7.size _).grown hg8 (by have := hb7.size; simp; omega) (fun g' hg' => (hown7.lt g' hg').1)))
                        | ((refine step_append_own (by rfl) (.tmp 79) (.tmp 81) 29 (by rfl) wt.heap.size 24 i0 (.slice none 0 0) 1 24 Tryz.underlying29 hi hy0 hy1 hy2 rfl (by omega) v7 m6 (vo.take m6) (by rfl) hown7 ⟨wt.heap.size + 1, 0, none⟩ 1 1 [.slice (some ⟨xb, xo, none⟩) k cx] (by rfl) (by rfl) hX7 (by intro u hu; simp at hu; subst hu; exact hxone) (by have := hmx; omega) (by omega) hb7.size ?_; intro v8 w8 hown8 hg8 hat8; have hb8 := hb7.grown hg8 hb7.size (fun g' hg' => (hown7.lt g' hg').1)))
                        | ((refine step_append_own (by rfl) (.tmp 79) (.tmp 81) 29 (by rfl) wt.heap.size 24 i0 (.slice none 0 0) 1 24 Tryz.underlying29 hi hy0 hy1 hy2 rfl (by omega) v7 m6 (vo.take m6) (by rfl) hown7 ⟨wt.heap.size, 0, none⟩ 1 1 [.slice (some ⟨xb, xo, none⟩) k cx] (by rfl) (by rfl) hX7 (by intro u hu; simp at hu; subst hu; exact hxone) (by have := hmx; omega) (by omega) hb7.size ?_; intro v8 w8 hown8 hg8 hat8; have hb8 := hb7.grown hg8 hb7.size (fun g' hg' => (hown7.lt g' hg').1)))
                        | ((refine step_append_own (by rfl) (.tmp 75) (.tmp 78) 29 (by rfl) wt.heap.size 24 i0 (.slice none 0 0) 1 24 Tryz.underlying29 hi hy0 hy1 hy2 rfl (by omega) (.slice (some ⟨wt.heap.size, 0, none⟩) 0 0) 0 [] (by rfl) (ob_nilT wt.drew 24 wt.heap.size (Nat.le_refl _)) ⟨g, 0, none⟩ m6 m6 (vo.take m6) (by rfl) (by rw [Nat.mul_one]; exact HTK.out) (hs1 _ ((Below.refl _ _).drew.alloc (Nat.le_refl _) _)) (fun u hu => HONE.out u (List.mem_of_mem_take hu)) (by have := hmx; omega) (by omega) (by simp; try omega) ?_; intro v7 w7 hown7 hg7 hat7; have hb7 := ((Below.refl wt.heap.size wt).drew.alloc (Nat.le_refl _) _).grown hg7 (by simp; try omega) (fun g' hg' => (by simp [Value.ownBlock] at hg'; omega)); rw [Nat.zero_add, List.nil_append] at hown7))
                        | ((refine step_append_own (by rfl) (.tmp 75) (.tmp 78) 29 (by rfl) wt.heap.size 24 i0 (.slice none 0 0) 1 24 Tryz.underlying29 hi hy0 hy1 hy2 rfl (by omega) (.slice (some ⟨wt.heap.size, 0, none⟩) 0 0) 0 [] (by rfl) (World.ownsRow.alloc (ob_nilT wt.drew 24 wt.heap.size (Nat.le_refl _)) _) ⟨g, 0, none⟩ m6 m6 (vo.take m6) (by rfl) (by rw [Nat.mul_one]; exact HTK.out) (hs1 _ (((Below.refl _ _).drew.alloc (Nat.le_refl _) _).alloc (by simp) _)) (fun u hu => HONE.out u (List.mem_of_mem_take hu)) (by have := hmx; omega) (by omega) (by simp; try omega) ?_; intro v7 w7 hown7 hg7 hat7; have hb7 := (((Below.refl wt.heap.size wt).drew.alloc (Nat.le_refl _) _).alloc (by simp) _).grown hg7 (by simp; try omega) (fun g' hg' => (by simp [Value.ownBlock] at hg'; omega)); have hX7 := xkeep2 hg7; rw [Nat.zero_add, List.nil_append] at hown7))
                        | ((refine step_append_own (by rfl) (.tmp 75) (.tmp 78) 29 (by rfl) wt.heap.size 24 i0 (.slice none 0 0) 1 24 Tryz.underlying29 hi hy0 hy1 hy2 rfl (by omega) (.slice (some ⟨wt.heap.size + 1, 0, none⟩) 0 0) 0 [] (by rfl) (ob_nil1 wt (.slice (some ⟨xb, xo, none⟩) k cx)) ⟨g, 0, none⟩ m6 m6 (vo.take m6) (by rfl) (by rw [Nat.mul_one]; exact HTK.out) (hs1 _ (((Below.refl _ _).drew.alloc (Nat.le_refl _) _).alloc (by simp) _)) (fun u hu => HONE.out u (List.mem_of_mem_take hu)) (by have := hmx; omega) (by omega) (by simp; try omega) ?_; intro v7 w7 hown7 hg7 hat7; have hb7 := (((Below.refl wt.heap.size wt).drew.alloc (Nat.le_refl _) _).alloc (by simp) _).grown hg7 (by simp; try omega) (fun g' hg' => (by simp [Value.ownBlock] at hg'; omega)); have hX7 := xkeep1 hg7; rw [Nat.zero_add, List.nil_append] at hown7)))
                    all_goals
                      have hlen9 : m6 + 1 + 0 = m6 + 1 := by omega
                      rw [hlen9] at hown9
                      obtain ⟨A9, c9, rfl, _⟩ := own_slice' hown9
                      obtain ⟨g9, rfl, _, _, _⟩ := own_src hown9 (by omega)
                      have hrr9 := Lib.hid (HINS.out.below hb9)
                      have hb99 := hbT.trans (hb9.mono hzT)
                      have ho99 := own_mono hown9 hzT
                      clear hown9 hown8 hown7 hb9 hb8 hb7 hlen9 hs1 hs3 hsB hoT hbT
                      go_wp2_with (fail)
                      go_roundw
                      case rel => exact ⟨i + 1, g9, m6 + 1, c9, _, by omega, by go_num, rfl, by rw [HE.out]; exact HEL.out, ho99, by rw [HE.out]; exact hrr9.out, hb99⟩
                      case measure => simp [intOf]; omega
                  · have hs3 : ∀ W : World, Below wt.heap.size wt W → ∀ j u, (vo.drop t)[j]? = some u → W.cell? ((⟨g, t, none⟩ : Addr).add j) = some u := fun W hW j u hj => by
                      rw [Go.WideShapes.add_plain]
                      rw [List.getElem?_drop] at hj
                      exact hsB W hW (t + j) u hj
                    go_wp2_with (fail)
                    go_region_law
                      (first
                        | ((refine step_append_own (by rfl) (.tmp 82) (.tmp 85) 29 (by rfl) wt.heap.size 24 i0 (.slice none 0 0) 1 24 Tryz.underlying29 hi hy0 hy1 hy2 rfl (by omega) v8 (t + 1) (vo.take t ++ [.slice (some ⟨xb, xo, none⟩) k cx]) (by rfl) hown8 ⟨g, t, none⟩ (m6 - t) (co - t) (vo.drop t) (by rfl) (by rw [Nat.mul_one]; exact HDP.out) (hs3 _ hb8) (fun u hu => HONE.out u (List.mem_of_mem_drop hu)) (by have := hmx; omega) (by omega) hb8.size ?_; intro v9 w9 hown9 hg9 hat9; have hb9 := hb8.grown hg9 hb8.size (fun g' hg' => (hown8.lt g' hg').1)))
                        | ((refine step_append_own (by rfl) (.tmp 79) (.tmp 81) 29 (by rfl) wt.heap.size 24 i0 (.slice none 0 0) 1 24 Tryz.underlying29 hi hy0 hy1 hy2 rfl (by omega) v7 t (vo.take t) (by rfl) (World.ownsRow.alloc hown7 _) ⟨w7.heap.size, 0, none⟩ 1 1 [.slice (some ⟨xb, xo, none⟩) k cx] (by rfl) (by rfl) (fun j u hj => one_src w7 (.slice (some ⟨xb, xo, none⟩) k cx) 24 _ rfl j u hj) (by intro u hu; simp at hu; subst hu; exact hxone) (by have := hmx; omega) (by omega) (by have := hb7.size; simp; omega) ?_; intro v8 w8 hown8 hg8 hat8; have hb8 := (hb7.alloc hb7.size _).grown hg8 (by have := hb7.size; simp; omega) (fun g' hg' => (hown7.lt g' hg').1)))
                        | ((refine step_append_own (by rfl) (.tmp 79) (.tmp 81) 29 (by rfl) wt.heap.size 24 i0 (.slice none 0 0) 1 24 Tryz.underlying29 hi hy0 hy1 hy2 rfl (by omega) v7 t (vo.take t) (by rfl) hown7 ⟨wt.heap.size + 1, 0, none⟩ 1 1 [.slice (some ⟨xb, xo, none⟩) k cx] (by rfl) (by rfl) hX7 (by intro u hu; simp at hu; subst hu; exact hxone) (by have := hmx; omega) (by omega) hb7.size ?_; intro v8 w8 hown8 hg8 hat8; have hb8 := hb7.grown hg8 hb7.size (fun g' hg' => (hown7.lt g' hg').1)))
                        | ((refine step_append_own (by rfl) (.tmp 79) (.tmp 81) 29 (by rfl) wt.heap.size 24 i0 (.slice none 0 0) 1 24 Tryz.underlying29 hi hy0 hy1 hy2 rfl (by omega) v7 t (vo.take t) (by rfl) hown7 ⟨wt.heap.size, 0, none⟩ 1 1 [.slice (some ⟨xb, xo, none⟩) k cx] (by rfl) (by rfl) hX7 (by intro u hu; simp at hu; subst hu; exact hxone) (by have := hmx; omega) (by omega) hb7.size ?_; intro v8 w8 hown8 hg8 hat8; have hb8 := hb7.grown hg8 hb7.size (fun g' hg' => (hown7.lt g' hg').1)))
                        | ((refine step_append_own (by rfl) (.tmp 75) (.tmp 78) 29 (by rfl) wt.heap.size 24 i0 (.slice none 0 0) 1 24 Tryz.underlying29 hi hy0 hy1 hy2 rfl (by omega) (.slice (some ⟨wt.heap.size, 0, none⟩) 0 0) 0 [] (by rfl) (ob_nilT wt.drew 24 wt.heap.size (Nat.le_refl _)) ⟨g, 0, none⟩ t co (vo.take t) (by rfl) (by rw [Nat.mul_one]; exact HTK.out) (hs1 _ ((Below.refl _ _).drew.alloc (Nat.le_refl _) _)) (fun u hu => HONE.out u (List.mem_of_mem_take hu)) (by have := hmx; omega) (by omega) (by simp; try omega) ?_; intro v7 w7 hown7 hg7 hat7; have hb7 := ((Below.refl wt.heap.size wt).drew.alloc (Nat.le_refl _) _).grown hg7 (by simp; try omega) (fun g' hg' => (by simp [Value.ownBlock] at hg'; omega)); rw [Nat.zero_add, List.nil_append] at hown7))
                        | ((refine step_append_own (by rfl) (.tmp 75) (.tmp 78) 29 (by rfl) wt.heap.size 24 i0 (.slice none 0 0) 1 24 Tryz.underlying29 hi hy0 hy1 hy2 rfl (by omega) (.slice (some ⟨wt.heap.size, 0, none⟩) 0 0) 0 [] (by rfl) (World.ownsRow.alloc (ob_nilT wt.drew 24 wt.heap.size (Nat.le_refl _)) _) ⟨g, 0, none⟩ t co (vo.take t) (by rfl) (by rw [Nat.mul_one]; exact HTK.out) (hs1 _ (((Below.refl _ _).drew.alloc (Nat.le_refl _) _).alloc (by simp) _)) (fun u hu => HONE.out u (List.mem_of_mem_take hu)) (by have := hmx; omega) (by omega) (by simp; try omega) ?_; intro v7 w7 hown7 hg7 hat7; have hb7 := (((Below.refl wt.heap.size wt).drew.alloc (Nat.le_refl _) _).alloc (by simp) _).grown hg7 (by simp; try omega) (fun g' hg' => (by simp [Value.ownBlock] at hg'; omega)); have hX7 := xkeep2 hg7; rw [Nat.zero_add, List.nil_append] at hown7))
                        | ((refine step_append_own (by rfl) (.tmp 75) (.tmp 78) 29 (by rfl) wt.heap.size 24 i0 (.slice none 0 0) 1 24 Tryz.underlying29 hi hy0 hy1 hy2 rfl (by omega) (.slice (some ⟨wt.heap.size + 1, 0, none⟩) 0 0) 0 [] (by rfl) (ob_nil1 wt (.slice (some ⟨xb, xo, none⟩) k cx)) ⟨g, 0, none⟩ t co (vo.take t) (by rfl) (by rw [Nat.mul_one]; exact HTK.out) (hs1 _ (((Below.refl _ _).drew.alloc (Nat.le_refl _) _).alloc (by simp) _)) (fun u hu => HONE.out u (List.mem_of_mem_take hu)) (by have := hmx; omega) (by omega) (by simp; try omega) ?_; intro v7 w7 hown7 hg7 hat7; have hb7 := (((Below.refl wt.heap.size wt).drew.alloc (Nat.le_refl _) _).alloc (by simp) _).grown hg7 (by simp; try omega) (fun g' hg' => (by simp [Value.ownBlock] at hg'; omega)); have hX7 := xkeep1 hg7; rw [Nat.zero_add, List.nil_append] at hown7)))
                    all_goals
                      have hlen9 : t + 1 + (m6 - t) = m6 + 1 := by omega
                      rw [hlen9] at hown9
                      obtain ⟨A9, c9, rfl, _⟩ := own_slice' hown9
                      obtain ⟨g9, rfl, _, _, _⟩ := own_src hown9 (by omega)
                      have hrr9 := Lib.hid (HINS.out.below hb9)
                      have hb99 := hbT.trans (hb9.mono hzT)
                      have ho99 := own_mono hown9 hzT
                      clear hown9 hown8 hown7 hb9 hb8 hb7 hlen9 hs1 hs3 hsB hoT hbT
                      go_wp2_with (fail)
                      go_roundw
                      case rel => exact ⟨i + 1, g9, m6 + 1, c9, _, by omega, by go_num, rfl, by rw [HE.out]; exact HEL.out, ho99, by rw [HE.out]; exact hrr9.out, hb99⟩
                      case measure => simp [intOf]; omega
            · have htm' : t = m6 := by omega
              have htf : ((t : Int) == (m6 : Int)) = true := by rw [beq_iff_eq]; omega
              have hE4 := HAT3.out t ht HT.out (fun h => absurd h htm)
              rw [if_pos (.inl htm')] at hE4
              clear htm'
              go_wp2_with (go_quiet (fail))
              have hdrT : DR w10 (wr.drewN nq) := hdr.step _
              have HINS0 := HINSA.out t ht _ hdrT
              have hoT := (HFIN.out _ hdrT).1
              have hbT := (HFIN.out _ hdrT).2.2
              generalize wr.drewN nq = wt at *
              have hico := (own_cap hoT).1
              have hcoM := (own_cap hoT).2
              have hzT := hbT.size
              have hgT := (hoT.lt g rfl).2
              have htk : (vo.take t).length = t := by rw [List.length_take]; omega
              have hdp : (vo.drop t).length = m6 - t := by rw [List.length_drop]; omega
              have HTK := Lib.hid htk
              have HDP := Lib.hid hdp
              have HE := Lib.hid (show imS ims (i + 1) = out.take t ++ [im] ++ out.drop t by rw [hE4]; simp)
              have HEL := Lib.hid (show m6 + 1 = (out.take t ++ [im] ++ out.drop t).length by have := HM6.out; simp; omega)
              have hxone : (Value.slice (some ⟨xb, xo, none⟩) k cx).oneCell' = true := rfl
              clear htk hdp
              have hsB : ∀ W : World, Below wt.heap.size wt W → ∀ j u, vo[j]? = some u → W.cell? ⟨g, j, none⟩ = some u := fun W hW j u hj => by
                have h9 := World.ownsRow.cells (own_below hoT hW) (g := g) rfl j u hj
                rw [Go.WideShapes.add_plain] at h9
                simpa using h9
              have hs1 : ∀ W : World, Below wt.heap.size wt W → ∀ j u, (vo.take t)[j]? = some u → W.cell? ((⟨g, 0, none⟩ : Addr).add j) = some u := fun W hW j u hj => by
                rw [Go.WideShapes.add_plain, Nat.zero_add]
                rw [List.getElem?_take] at hj
                split at hj
                · exact hsB W hW j u hj
                · cases hj
              have p1 : t ≤ co := by omega
              have p2 : (t : Int) ≤ (co : Int) := by omega
              have p3 : (t : Int) ≤ (m6 : Int) := by omega
              have hmx : m6 + 1 ≤ maxLen := by simp only [maxLen]; omega
              have HINS := Lib.hid HINS0
              clear HINS0
              by_cases hca : co = t
              · have hia : m6 = t := by omega
                subst hca
                have hs3 : ∀ W : World, Below wt.heap.size wt W → ∀ j u, (vo.drop co)[j]? = some u → W.cell? ((⟨g, 0, none⟩ : Addr).add j) = some u := fun W hW j u hj => by
                  rw [List.getElem?_eq_none (by rw [HDP.out]; omega)] at hj; cases hj
                subst hia
                go_wp2_with (fail)
                go_region_law
                  (first
                    | ((refine step_append_own (by rfl) (.tmp 82) (.tmp 85) 29 (by rfl) wt.heap.size 24 i0 (.slice none 0 0) 1 24 Tryz.underlying29 hi hy0 hy1 hy2 rfl (by omega) v8 (m6 + 1) (vo.take m6 ++ [.slice (some ⟨xb, xo, none⟩) k cx]) (by rfl) hown8 ⟨g, 0, none⟩ 0 0 (vo.drop m6) (by rfl) (by rw [Nat.mul_one]; exact (by rw [HDP.out]; omega)) (hs3 _ hb8) (fun u hu => HONE.out u (List.mem_of_mem_drop hu)) (by have := hmx; omega) (by omega) hb8.size ?_; intro v9 w9 hown9 hg9 hat9; have hb9 := hb8.grown hg9 hb8.size (fun g' hg' => (hown8.lt g' hg').1)))
                    | ((refine step_append_own (by rfl) (.tmp 79) (.tmp 81) 29 (by rfl) wt.heap.size 24 i0 (.slice none 0 0) 1 24 Tryz.underlying29 hi hy0 hy1 hy2 rfl (by omega) v7 m6 (vo.take m6) (by rfl) (World.ownsRow.alloc hown7 _) ⟨w7.heap.size, 0, none⟩ 1 1 [.slice (some ⟨xb, xo, none⟩) k cx] (by rfl) (by rfl) (fun j u hj => one_src w7 (.slice (some ⟨xb, xo, none⟩) k cx) 24 _ rfl j u hj) (by intro u hu; simp at hu; subst hu; exact hxone) (by have := hmx; omega) (by omega) (by have := hb7.size; simp; omega) ?_; intro v8 w8 hown8 hg8 hat8; have hb8 := (hb7.alloc hb7.size _).grown hg8 (by have := hb7.size; simp; omega) (fun g' hg' => (hown7.lt g' hg').1)))
                    | ((refine step_append_own (by rfl) (.tmp 79) (.tmp 81) 29 (by rfl) wt.heap.size 24 i0 (.slice none 0 0) 1 24 Tryz.underlying29 hi hy0 hy1 hy2 rfl (by omega) v7 m6 (vo.take m6) (by rfl) hown7 ⟨wt.heap.size + 1, 0, none⟩ 1 1 [.slice (some ⟨xb, xo, none⟩) k cx] (by rfl) (by rfl) hX7 (by intro u hu; simp at hu; subst hu; exact hxone) (by have := hmx; omega) (by omega) hb7.size ?_; intro v8 w8 hown8 hg8 hat8; have hb8 := hb7.grown hg8 hb7.size (fun g' hg' => (hown7.lt g' hg').1)))
                    | ((refine step_append_own (by rfl) (.tmp 79) (.tmp 81) 29 (by rfl) wt.heap.size 24 i0 (.slice none 0 0) 1 24 Tryz.underlying29 hi hy0 hy1 hy2 rfl (by omega) v7 m6 (vo.take m6) (by rfl) hown7 ⟨wt.heap.size, 0, none⟩ 1 1 [.slice (some ⟨xb, xo, none⟩) k cx] (by rfl) (by rfl) hX7 (by intro u hu; simp at hu; subst hu; exact hxone) (by have := hmx; omega) (by omega) hb7.size ?_; intro v8 w8 hown8 hg8 hat8; have hb8 := hb7.grown hg8 hb7.size (fun g' hg' => (hown7.lt g' hg').1)))
                    | ((refine step_append_own (by rfl) (.tmp 75) (.tmp 78) 29 (by rfl) wt.heap.size 24 i0 (.slice none 0 0) 1 24 Tryz.underlying29 hi hy0 hy1 hy2 rfl (by omega) (.slice (some ⟨wt.heap.size, 0, none⟩) 0 0) 0 [] (by rfl) (ob_nilT wt.drew 24 wt.heap.size (Nat.le_refl _)) ⟨g, 0, none⟩ m6 m6 (vo.take m6) (by rfl) (by rw [Nat.mul_one]; exact HTK.out) (hs1 _ ((Below.refl _ _).drew.alloc (Nat.le_refl _) _)) (fun u hu => HONE.out u (List.mem_of_mem_take hu)) (by have := hmx; omega) (by omega) (by simp; try omega) ?_; intro v7 w7 hown7 hg7 hat7; have hb7 := ((Below.refl wt.heap.size wt).drew.alloc (Nat.le_refl _) _).grown hg7 (by simp; try omega) (fun g' hg' => (by simp [Value.ownBlock] at hg'; omega)); rw [Nat.zero_add, List.nil_append] at hown7))
                    | ((refine step_append_own (by rfl) (.tmp 75) (.tmp 78) 29 (by rfl) wt.heap.size 24 i0 (.slice none 0 0) 1 24 Tryz.underlying29 hi hy0 hy1 hy2 rfl (by omega) (.slice (some ⟨wt.heap.size, 0, none⟩) 0 0) 0 [] (by rfl) (World.ownsRow.alloc (ob_nilT wt.drew 24 wt.heap.size (Nat.le_refl _)) _) ⟨g, 0, none⟩ m6 m6 (vo.take m6) (by rfl) (by rw [Nat.mul_one]; exact HTK.out) (hs1 _ (((Below.refl _ _).drew.alloc (Nat.le_refl _) _).alloc (by simp) _)) (fun u hu => HONE.out u (List.mem_of_mem_take hu)) (by have := hmx; omega) (by omega) (by simp; try omega) ?_; intro v7 w7 hown7 hg7 hat7; have hb7 := (((Below.refl wt.heap.size wt).drew.alloc (Nat.le_refl _) _).alloc (by simp) _).grown hg7 (by simp; try omega) (fun g' hg' => (by simp [Value.ownBlock] at hg'; omega)); have hX7 := xkeep2 hg7; rw [Nat.zero_add, List.nil_append] at hown7))
                    | ((refine step_append_own (by rfl) (.tmp 75) (.tmp 78) 29 (by rfl) wt.heap.size 24 i0 (.slice none 0 0) 1 24 Tryz.underlying29 hi hy0 hy1 hy2 rfl (by omega) (.slice (some ⟨wt.heap.size + 1, 0, none⟩) 0 0) 0 [] (by rfl) (ob_nil1 wt (.slice (some ⟨xb, xo, none⟩) k cx)) ⟨g, 0, none⟩ m6 m6 (vo.take m6) (by rfl) (by rw [Nat.mul_one]; exact HTK.out) (hs1 _ (((Below.refl _ _).drew.alloc (Nat.le_refl _) _).alloc (by simp) _)) (fun u hu => HONE.out u (List.mem_of_mem_take hu)) (by have := hmx; omega) (by omega) (by simp; try omega) ?_; intro v7 w7 hown7 hg7 hat7; have hb7 := (((Below.refl wt.heap.size wt).drew.alloc (Nat.le_refl _) _).alloc (by simp) _).grown hg7 (by simp; try omega) (fun g' hg' => (by simp [Value.ownBlock] at hg'; omega)); have hX7 := xkeep1 hg7; rw [Nat.zero_add, List.nil_append] at hown7)))
                all_goals
                  have hlen9 : m6 + 1 + 0 = m6 + 1 := by omega
                  rw [hlen9] at hown9
                  obtain ⟨A9, c9, rfl, _⟩ := own_slice' hown9
                  obtain ⟨g9, rfl, _, _, _⟩ := own_src hown9 (by omega)
                  have hrr9 := Lib.hid (HINS.out.below hb9)
                  have hb99 := hbT.trans (hb9.mono hzT)
                  have ho99 := own_mono hown9 hzT
                  clear hown9 hown8 hown7 hb9 hb8 hb7 hlen9 hs1 hs3 hsB hoT hbT
                  go_wp2_with (fail)
                  go_roundw
                  case rel => exact ⟨i + 1, g9, m6 + 1, c9, _, by omega, by go_num, rfl, by rw [HE.out]; exact HEL.out, ho99, by rw [HE.out]; exact hrr9.out, hb99⟩
                  case measure => simp [intOf]; omega
              · have hs3 : ∀ W : World, Below wt.heap.size wt W → ∀ j u, (vo.drop t)[j]? = some u → W.cell? ((⟨g, t, none⟩ : Addr).add j) = some u := fun W hW j u hj => by
                  rw [Go.WideShapes.add_plain]
                  rw [List.getElem?_drop] at hj
                  exact hsB W hW (t + j) u hj
                go_wp2_with (fail)
                go_region_law
                  (first
                    | ((refine step_append_own (by rfl) (.tmp 82) (.tmp 85) 29 (by rfl) wt.heap.size 24 i0 (.slice none 0 0) 1 24 Tryz.underlying29 hi hy0 hy1 hy2 rfl (by omega) v8 (t + 1) (vo.take t ++ [.slice (some ⟨xb, xo, none⟩) k cx]) (by rfl) hown8 ⟨g, t, none⟩ (m6 - t) (co - t) (vo.drop t) (by rfl) (by rw [Nat.mul_one]; exact HDP.out) (hs3 _ hb8) (fun u hu => HONE.out u (List.mem_of_mem_drop hu)) (by have := hmx; omega) (by omega) hb8.size ?_; intro v9 w9 hown9 hg9 hat9; have hb9 := hb8.grown hg9 hb8.size (fun g' hg' => (hown8.lt g' hg').1)))
                    | ((refine step_append_own (by rfl) (.tmp 79) (.tmp 81) 29 (by rfl) wt.heap.size 24 i0 (.slice none 0 0) 1 24 Tryz.underlying29 hi hy0 hy1 hy2 rfl (by omega) v7 t (vo.take t) (by rfl) (World.ownsRow.alloc hown7 _) ⟨w7.heap.size, 0, none⟩ 1 1 [.slice (some ⟨xb, xo, none⟩) k cx] (by rfl) (by rfl) (fun j u hj => one_src w7 (.slice (some ⟨xb, xo, none⟩) k cx) 24 _ rfl j u hj) (by intro u hu; simp at hu; subst hu; exact hxone) (by have := hmx; omega) (by omega) (by have := hb7.size; simp; omega) ?_; intro v8 w8 hown8 hg8 hat8; have hb8 := (hb7.alloc hb7.size _).grown hg8 (by have := hb7.size; simp; omega) (fun g' hg' => (hown7.lt g' hg').1)))
                    | ((refine step_append_own (by rfl) (.tmp 79) (.tmp 81) 29 (by rfl) wt.heap.size 24 i0 (.slice none 0 0) 1 24 Tryz.underlying29 hi hy0 hy1 hy2 rfl (by omega) v7 t (vo.take t) (by rfl) hown7 ⟨wt.heap.size + 1, 0, none⟩ 1 1 [.slice (some ⟨xb, xo, none⟩) k cx] (by rfl) (by rfl) hX7 (by intro u hu; simp at hu; subst hu; exact hxone) (by have := hmx; omega) (by omega) hb7.size ?_; intro v8 w8 hown8 hg8 hat8; have hb8 := hb7.grown hg8 hb7.size (fun g' hg' => (hown7.lt g' hg').1)))
                    | ((refine step_append_own (by rfl) (.tmp 79) (.tmp 81) 29 (by rfl) wt.heap.size 24 i0 (.slice none 0 0) 1 24 Tryz.underlying29 hi hy0 hy1 hy2 rfl (by omega) v7 t (vo.take t) (by rfl) hown7 ⟨wt.heap.size, 0, none⟩ 1 1 [.slice (some ⟨xb, xo, none⟩) k cx] (by rfl) (by rfl) hX7 (by intro u hu; simp at hu; subst hu; exact hxone) (by have := hmx; omega) (by omega) hb7.size ?_; intro v8 w8 hown8 hg8 hat8; have hb8 := hb7.grown hg8 hb7.size (fun g' hg' => (hown7.lt g' hg').1)))
                    | ((refine step_append_own (by rfl) (.tmp 75) (.tmp 78) 29 (by rfl) wt.heap.size 24 i0 (.slice none 0 0) 1 24 Tryz.underlying29 hi hy0 hy1 hy2 rfl (by omega) (.slice (some ⟨wt.heap.size, 0, none⟩) 0 0) 0 [] (by rfl) (ob_nilT wt.drew 24 wt.heap.size (Nat.le_refl _)) ⟨g, 0, none⟩ t co (vo.take t) (by rfl) (by rw [Nat.mul_one]; exact HTK.out) (hs1 _ ((Below.refl _ _).drew.alloc (Nat.le_refl _) _)) (fun u hu => HONE.out u (List.mem_of_mem_take hu)) (by have := hmx; omega) (by omega) (by simp; try omega) ?_; intro v7 w7 hown7 hg7 hat7; have hb7 := ((Below.refl wt.heap.size wt).drew.alloc (Nat.le_refl _) _).grown hg7 (by simp; try omega) (fun g' hg' => (by simp [Value.ownBlock] at hg'; omega)); rw [Nat.zero_add, List.nil_append] at hown7))
                    | ((refine step_append_own (by rfl) (.tmp 75) (.tmp 78) 29 (by rfl) wt.heap.size 24 i0 (.slice none 0 0) 1 24 Tryz.underlying29 hi hy0 hy1 hy2 rfl (by omega) (.slice (some ⟨wt.heap.size, 0, none⟩) 0 0) 0 [] (by rfl) (World.ownsRow.alloc (ob_nilT wt.drew 24 wt.heap.size (Nat.le_refl _)) _) ⟨g, 0, none⟩ t co (vo.take t) (by rfl) (by rw [Nat.mul_one]; exact HTK.out) (hs1 _ (((Below.refl _ _).drew.alloc (Nat.le_refl _) _).alloc (by simp) _)) (fun u hu => HONE.out u (List.mem_of_mem_take hu)) (by have := hmx; omega) (by omega) (by simp; try omega) ?_; intro v7 w7 hown7 hg7 hat7; have hb7 := (((Below.refl wt.heap.size wt).drew.alloc (Nat.le_refl _) _).alloc (by simp) _).grown hg7 (by simp; try omega) (fun g' hg' => (by simp [Value.ownBlock] at hg'; omega)); have hX7 := xkeep2 hg7; rw [Nat.zero_add, List.nil_append] at hown7))
                    | ((refine step_append_own (by rfl) (.tmp 75) (.tmp 78) 29 (by rfl) wt.heap.size 24 i0 (.slice none 0 0) 1 24 Tryz.underlying29 hi hy0 hy1 hy2 rfl (by omega) (.slice (some ⟨wt.heap.size + 1, 0, none⟩) 0 0) 0 [] (by rfl) (ob_nil1 wt (.slice (some ⟨xb, xo, none⟩) k cx)) ⟨g, 0, none⟩ t co (vo.take t) (by rfl) (by rw [Nat.mul_one]; exact HTK.out) (hs1 _ (((Below.refl _ _).drew.alloc (Nat.le_refl _) _).alloc (by simp) _)) (fun u hu => HONE.out u (List.mem_of_mem_take hu)) (by have := hmx; omega) (by omega) (by simp; try omega) ?_; intro v7 w7 hown7 hg7 hat7; have hb7 := (((Below.refl wt.heap.size wt).drew.alloc (Nat.le_refl _) _).alloc (by simp) _).grown hg7 (by simp; try omega) (fun g' hg' => (by simp [Value.ownBlock] at hg'; omega)); have hX7 := xkeep1 hg7; rw [Nat.zero_add, List.nil_append] at hown7)))
                all_goals
                  have hlen9 : t + 1 + (m6 - t) = m6 + 1 := by omega
                  rw [hlen9] at hown9
                  obtain ⟨A9, c9, rfl, _⟩ := own_slice' hown9
                  obtain ⟨g9, rfl, _, _, _⟩ := own_src hown9 (by omega)
                  have hrr9 := Lib.hid (HINS.out.below hb9)
                  have hb99 := hbT.trans (hb9.mono hzT)
                  have ho99 := own_mono hown9 hzT
                  clear hown9 hown8 hown7 hb9 hb8 hb7 hlen9 hs1 hs3 hsB hoT hbT
                  go_wp2_with (fail)
                  go_roundw
                  case rel => exact ⟨i + 1, g9, m6 + 1, c9, _, by omega, by go_num, rfl, by rw [HE.out]; exact HEL.out, ho99, by rw [HE.out]; exact hrr9.out, hb99⟩
                  case measure => simp [intOf]; omega
    · obtain rfl : i = L := by omega
      go_wp2_with (fail)
      go_ret
      exact ⟨_, _, _, vo, HM6.out, rfl, own_mono hown (by omega), hrows.mono (by omega), bel_call hb0 (bel_call hb2 hb)⟩
end Go.Proofs.YtglijcdnnaekkaaGreat

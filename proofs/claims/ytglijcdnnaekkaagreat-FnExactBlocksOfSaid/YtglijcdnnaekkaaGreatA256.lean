/- The first block of a size: the walk of the reference's search. -/
import Derived.Test.YtglijcdnnaekkaaGreatA255
namespace Go.Proofs.YtglijcdnnaekkaaGreat
set_option linter.unusedVariables false
set_option linter.unusedSimpArgs false
open Go.RowKit

theorem tJ_snoc (pts : List Nat) (p : Nat) : ints (tJ pts) ++ [Value.int .i64 (p : Int)] = ints (tJ (pts ++ [p])) := by simp [tJ, ints]
theorem is_l01Own (A : Option Addr) (n c : Nat) (l : List Int) (w : World) (hn : n = l.length) (h0 : 0 < n) (hl : n ≤ 1048576) (hs : IS w w.heap.size A l) : Calls Tryz.prog 119 #[.slice A n c] w (MI w.heap.size n l w) := by
  obtain ⟨b, off, rfl, hb, hc⟩ := hs.at (k := 0) (by omega)
  refine s_l01Own ⟨b, off, none⟩ n c l w hn hl (fun j u hj => ?_) (fun j => by rw [Go.WideShapes.add_plain]; exact hb)
  have hjl : j < l.length := by
    have := (List.getElem?_eq_some_iff.1 hj).1
    rwa [ints_length] at this
  rw [Go.WideShapes.add_plain, hc j hjl]
  rw [← hj]
  simp [ints, gt, List.getElem?_eq_getElem hjl]
theorem last_snoc (pts : List Nat) (p : Nat) : (pts ++ [p]).getD pts.length 0 = p := by simp
set_option maxRecDepth 20000 in
set_option maxHeartbeats 4000000 in
theorem s_find (n k : Nat) (A : Option Addr) (L c0 : Nat) (l : List Int) (hn : 1 ≤ n) (hn6 : n ≤ 6) (hL : L = l.length) (h0 : 0 < L) (hl : L ≤ 1000) (hk : InK n l) (hG : PG n (memL n l)) (ht : ∀ j, j < n → ∃ a ∈ memL n l, ap a 0 = j) (hkn : k ≤ n) :
    ∀ (c : Nat) (pts : List Nat) (q m cp : Nat) (Ap : Option Addr) (w : World), m = pts.length → m + c = k → 0 < m → pts.getD 0 0 = 0 → pts.Pairwise (· < ·) → (∀ x ∈ pts, x < q + 1) → pts.getD (m - 1) 0 = q → q < n → IS w w.heap.size A l → IS w w.heap.size Ap (tJ pts) →
    Calls Tryz.prog 66 #[.agg #[.int .i64 n, .slice A L c0], .slice Ap m cp, .int .i64 k] w (MI w.heap.size (tJ (fxL (blkB (memL n l)) n c (q + 1) pts)).length (tJ (fxL (blkB (memL n l)) n c (q + 1) pts)) w) := by
  intro c
  induction c using Nat.strongRecOn with
  | _ c ih =>
  intro pts q m cp Ap w hm hmc hm0 hz hr hlt hlast hq hs hsp
  have hpn : ∀ x ∈ pts, x < n := fun x hx => by have := hlt x hx; omega
  have hpj : ∀ j, pts.getD j 0 < n := fun j => by
    by_cases hj : j < pts.length
    · exact hpn _ (by simp [List.getElem?_eq_getElem hj])
    · simp [List.getElem?_eq_none (show pts.length ≤ j by omega)]; omega
  have hblk := fun W h h' => s_l23Block n A Ap L c0 m cp l pts W hn hn6 hL h0 hl hk hG ht h hm hm0 (by omega) hpj h' 0 hz.symm
  have hrec : ∀ c', c = c' + 1 → ∀ p, q + 1 ≤ p → p < n → ∀ (A7 : Option Addr) (c7 : Nat) (W : World), IS W W.heap.size A l → IS W W.heap.size A7 (tJ (pts ++ [p])) → Calls Tryz.prog 66 #[.agg #[.int .i64 n, .slice A L c0], .slice A7 (m + 1) c7, .int .i64 k] W (MI W.heap.size (tJ (fxL (blkB (memL n l)) n c' (p + 1) (pts ++ [p]))).length (tJ (fxL (blkB (memL n l)) n c' (p + 1) (pts ++ [p]))) W) := fun c' hc p hp hpn' A7 c7 W h h' =>
    ih c' (by omega) (pts ++ [p]) p (m + 1) c7 A7 W (by rw [List.length_append, ← hm]; rfl) (by omega) (by omega) (by
      rw [List.getD_eq_getElem?_getD, List.getElem?_append_left (show 0 < pts.length by omega), ← List.getD_eq_getElem?_getD]
      exact hz)
      (List.pairwise_append.2 ⟨hr, by simp, fun a ha b hb => by
        rw [List.mem_singleton] at hb
        have := hlt a ha
        omega⟩)
      (fun x hx => by
        rcases List.mem_append.1 hx with hx | hx
        · have := hlt x hx; omega
        · rw [List.mem_singleton] at hx; omega)
      (by rw [Nat.add_sub_cancel, hm]; exact last_snoc pts p) hpn' h h'
  have hcase : ∀ cl, Cls n (memL n l) pts cl → Cong n (memL n l) cl → Tog pts cl m → ((clsN n cl 0).length = k ∧ m = k ∧ fxL (blkB (memL n l)) n c (q + 1) pts = clsN n cl 0) ∨ (¬ (clsN n cl 0).length = k ∧ k < (clsN n cl 0).length ∧ fxL (blkB (memL n l)) n c (q + 1) pts = []) ∨ ((∃ b : Bool, (((clsN n cl 0).length : Int) == (k : Int)) = b) ∧ ((m : Int) == (k : Int)) = false ∧ ¬ (k : Int) < ((clsN n cl 0).length : Int) ∧ ∃ c', c = c' + 1) := fun cl g1 g2 g3 => by
    rw [hm] at g3
    have hsub := nat_sub_len hr (tog_sub hz g3 hpn)
    by_cases e1 : k < (clsN n cl 0).length
    · exact .inr (.inl ⟨by omega, e1, fx_big hG g1 hz (by omega) hpn hr (by omega) hlt (by omega)⟩)
    · by_cases e2 : m = k
      · obtain rfl : c = 0 := by omega
        exact .inl ⟨by omega, e2, fx_block hG g1 g2 hz g3 hpn hr (q + 1) (by omega)⟩
      · exact .inr (.inr ⟨⟨_, rfl⟩, by rw [beq_eq_false_iff_ne]; omega, by omega, ⟨c - 1, by omega⟩⟩)
  have hnx := fun c' p (h : p < n) => fxL_next (bl := blkB (memL n l)) (c := c') (pts := pts) h
  have hfl := fun c' p (h : p < n) => fxL_len (n := n) (bl := blkB (memL n l)) (c := c') (f := p + 1) (pts := pts ++ [p]) (by omega) (by simp)
  have hfe := fun c' => fx_end (bl := blkB (memL n l)) (n := n) (c := c') (f := n) (pts := pts) (by omega)
  have hf0 : ∀ c', fx (blkB (memL n l)) n (c' + 1) (q + 1) pts = none → fxL (blkB (memL n l)) n (c' + 1) (q + 1) pts = [] := fun c' h => by unfold fxL; rw [h]; rfl
  have hfq : ∀ c' p, fx (blkB (memL n l)) n (c' + 1) (q + 1) pts = fx (blkB (memL n l)) n (c' + 1) p pts → fxL (blkB (memL n l)) n (c' + 1) (q + 1) pts = fxL (blkB (memL n l)) n (c' + 1) p pts := fun c' p h => by unfold fxL; rw [h]
  have hlq : gt (tJ pts) (m - 1) = (q : Int) := by rw [gt_tJ, hlast]
  have htl : (tJ pts).length = m := by rw [tJ_len, hm]
  have hsn := fun p => tJ_snoc pts p
  generalize blkB (memL n l) = bl at *
  generalize memL n l = ms at *
  obtain ⟨i0, hi, hz0, hz1, hz2⟩ := info_parts infoI64
  have hmn : m ≤ 6 := by omega
  have HREC := Lib.hid hrec
  have HCASE := Lib.hid hcase
  have HNX := Lib.hid hnx
  have HFL := Lib.hid hfl
  have HFE := Lib.hid hfe
  have HF0 := Lib.hid hf0
  have HFQ := Lib.hid hfq
  have HLQ := Lib.hid hlq
  have HTL := Lib.hid htl
  have HSN := Lib.hid hsn
  have HMC := Lib.hid hmc
  clear hrec hcase hnx hfl hfe hf0 hfq hlq htl hsn ih hm hz hr hlt hlast hpn hpj hG ht hk hL h0 hl hmc
  have B1 := BK.new w 26 #[.int .i64 (n : Int), .slice A L c0]
  obtain ⟨d0, d1, _, _⟩ := B1.two
  have hb0 := (Below.refl w.heap.size w).alloc (Nat.le_refl _) (.cells #[.int .i64 (n : Int), .slice A L c0] 26)
  have hs0 := hs.call hb0
  have hsp0 := hsp.call hb0
  have hB1 := fun W (h : Below (w.alloc (.cells #[.int .i64 (n : Int), .slice A L c0] 26)).heap.size (w.alloc (.cells #[.int .i64 (n : Int), .slice A L c0] 26)) W) => (B1.below h (by simp)).two
  clear hs hsp B1
  go_enter Tryz.func66, Tryz.ntmps66
  go_wp2_with (fail)
  refine (hblk _ hs0 hsp0).mono ?_
  rintro e w4 ⟨cl, g1, g2, g3, v4, rfl, o4, hb4⟩
  have hcs := HCASE.out cl g1 g2 g3
  generalize w.alloc (.cells #[.int .i64 (n : Int), .slice A L c0] 26) = w1 at *
  obtain ⟨A4, c4, rfl, _⟩ := own_slice' o4
  rw [tJ_len] at o4 ⊢
  have hz1' := hb0.size
  clear hblk g1 g2 g3 d0 d1 HCASE
  generalize clsN n cl 0 = K at *
  generalize hKL : K.length = KL at *
  have HKL := Lib.hid hKL
  clear hKL
  rcases hcs with ⟨rfl, e2, e3⟩ | ⟨e1, e2, e3⟩ | ⟨⟨b, e1⟩, e2, e3, c', rfl⟩
  · subst e2
    have HE := Lib.hid e3
    clear e3
    go_wp2_with (fail)
    go_ret
    exact ⟨_, rfl, by rw [HE.out, tJ_len, HKL.out]; exact own_mono o4 hz1', bel_call hb0 hb4⟩
  · have e4 : ((KL : Int) == (k : Int)) = false := by rw [beq_eq_false_iff_ne]; omega
    have e5 : (k : Int) < (KL : Int) := by omega
    have HE := Lib.hid e3
    clear e1 e2 e3
    go_wp2_with (fail)
    go_ret
    exact ⟨_, rfl, by rw [HE.out]; exact World.ownsRow_nil _ _ _ _, bel_call hb0 hb4⟩
  · have hsp4 := hsp0.call hb4
    have hs4 := hs0.call hb4
    obtain ⟨pb, po, rfl, hpb, hpc⟩ := hsp4.at (k := 0) (by rw [HTL.out]; exact hm0)
    have e6 := hpc (m - 1) (by rw [HTL.out]; omega)
    rw [HLQ.out] at e6
    have hs1 : IntKind.i64.wrap ((m : Int) - 1) = (m : Int) - 1 := IntWalk.i64_in _ (by omega)
    have hs2 : ((m : Int) - 1).toNat = m - 1 := by omega
    have hs3 : 1 ≤ (m : Int) := by omega
    have hs5 : (m : Int) - 1 < m := by omega
    have hs6 : 0 ≤ (m : Int) - 1 := by omega
    have hm1 := HMC.out
    clear o4 hpc hsp0 hs0
    cases b
    all_goals
      go_wp2_with (fail)
      go_loopw [8] (fun u8 wr => ∃ p : Nat, q + 1 ≤ p ∧ p ≤ n ∧ u8 = .int .i64 p ∧ Hid (fx bl n (c' + 1) (q + 1) pts = fx bl n (c' + 1) p pts) ∧ Below w4.heap.size w4 wr) (fun u8 _ => n - (intOf u8).toNat)
      case atStart => exact ⟨q + 1, Nat.le_refl _, hq, by go_num, rfl, Below.refl _ _⟩
      case round =>
        obtain ⟨ws, rfl⟩ : ∃ ws : World, ws = wr := ⟨_, rfl⟩
        obtain ⟨p, hp1, hp2, rfl, HI, hb⟩ := hrel
        have hsz := hb.size
        have bw := bel_call hb4 hb
        obtain ⟨d0, d1, _, _⟩ := hB1 _ bw
        by_cases hlt : p < n
        · have hspw := hsp4.call hb
          have hsw := hs4.call hb
          have hnx := HNX.out c' p hlt
          have hfl := HFL.out c' p hlt
          have hrc := HREC.out c' rfl p hp1 hlt
          have hfq := HFQ.out c' p HI.out
          have hsn := HSN.out p
          have htl2 : m + 1 = (tJ (pts ++ [p])).length := by rw [tJ_len, List.length_append, ← tJ_len pts, HTL.out]; rfl
          have HN1 := Lib.hid (fun h => HI.out.trans (hnx.1 h))
          have HN2 := Lib.hid (fun h => hfq.trans (hnx.2 h))
          simp only [tJ_len] at hrc
          generalize fxL bl n c' (p + 1) (pts ++ [p]) = O at *
          generalize hOL : O.length = b8 at *
          have HO := Lib.hid hOL
          have HFLH := Lib.hid hfl
          have HTL2 := Lib.hid htl2
          have hown := fun W (h : IS W W.heap.size (some ⟨pb, po, none⟩) (tJ pts)) => is_l01Own (some ⟨pb, po, none⟩) m cp (tJ pts) W HTL.out.symm hm0 (by omega) h
          have hbl : Below ws.drew.heap.size ws.drew (ws.drew.alloc (.cells #[.int .i64 (p : Int)] 2)) := (Below.refl _ _).alloc (Nat.le_refl _) _
          have HSB := Lib.hid (show (ws.drew.alloc (.cells #[.int .i64 (p : Int)] 2)).heap.size = ws.heap.size + 1 from World.size_alloc _ _)
          have hcA := hown ws.drew (hspw.drewN 1)
          have hcB := hown (ws.drew.alloc (.cells #[.int .i64 (p : Int)] 2)) (IS.call (w := ws.drew) (hspw.drewN 1) hbl)
          obtain ⟨a0, a1, _, _⟩ := hB1 _ (bw.alloc bw.size (.cells #[.int .i64 (p : Int)] 2))
          clear hnx hfl hfq hOL htl2 hown e6
          go_wp2_with (fail)
          go_region_law
            (first
              | ((refine step_append_own (by rfl) (.tmp 43) (.tmp 45) 24 (by rfl) ws.heap.size 2 i0 (.int .i64 0) 1 8 Tryz.underlying24 hi hz0 hz1 hz2 rfl (by omega) (.slice Ao m co) m (ints (tJ pts)) (by rfl) (World.ownsRow.alloc (own_mono (base' := ws.heap.size) hoo (Nat.le_refl _)) _) ⟨w6.heap.size, 0, none⟩ 1 1 [.int .i64 p] (by rfl) (by rfl) (fun j u hj => one_src w6 _ _ _ rfl j u hj) (by intro u hu; simp at hu; subst hu; rfl) (by simp only [maxLen]; omega) (by omega) (by have := hbo.size; have : ws.heap.size ≤ w6.heap.size := this; simp; omega) ?_; intro v7 w7 hown7 hg7 hat7; have hb7 := Below.grown ((undrew (n := 1) hbo).alloc (undrew (n := 1) hbo).size _) hg7 (by have := (undrew (n := 1) hbo).size; simp; omega) (fun x7 hx7 => (hoo.lt x7 hx7).1); rw [hsn] at hown7; obtain ⟨A7, c7, rfl, _⟩ := own_slice' hown7; obtain ⟨f4, f5, _, _⟩ := hB1 _ (bel_call bw hb7)))
              | ((refine step_append_own (by rfl) (.tmp 43) (.tmp 45) 24 (by rfl) ws.heap.size 2 i0 (.int .i64 0) 1 8 Tryz.underlying24 hi hz0 hz1 hz2 rfl (by omega) (.slice Ao m co) m (ints (tJ pts)) (by rfl) (own_mono (base' := ws.heap.size) hoo (by rw [HSB.out]; omega)) ⟨ws.heap.size, 0, none⟩ 1 1 [.int .i64 p] (by rfl) (by rfl) (fun j u hj => (hbo.cell (p := (⟨ws.heap.size, 0, none⟩ : Addr).add j) (by rw [Go.WideShapes.add_plain]; simp)).trans (one_src ws.drew (.int .i64 p) 2 _ rfl j u hj)) (by intro u hu; simp at hu; subst hu; rfl) (by simp only [maxLen]; omega) (by omega) (by have h1 := hbo.size; rw [HSB.out] at h1; omega) ?_; intro v7 w7 hown7 hg7 hat7; have hb6 : Below ws.heap.size ws w6 := undrew (n := 1) (bel_call hbl hbo); have hb7 := hb6.grown hg7 hb6.size (fun x7 hx7 => by have h3 := (hoo.lt x7 hx7).1; rw [HSB.out] at h3; omega); rw [hsn] at hown7; obtain ⟨A7, c7, rfl, _⟩ := own_slice' hown7; obtain ⟨f4, f5, _, _⟩ := hB1 _ (bel_call bw hb7)))
              | (go_simp; go_at_call 119; first | (refine hcA.mono ?_; rintro e w6 ⟨v6, rfl, hoo, hbo⟩; obtain ⟨Ao, co, rfl, _⟩ := own_slice' hoo; have hbx := bel_call (below_drewN bw 1) hbo; obtain ⟨f0, f1, _, _⟩ := hB1 _ hbx; obtain ⟨f2, f3, _, _⟩ := hB1 _ (hbx.alloc hbx.size (.cells #[.int .i64 (p : Int)] 2))) | (refine hcB.mono ?_; rintro e w6 ⟨v6, rfl, hoo, hbo⟩; obtain ⟨Ao, co, rfl, _⟩ := own_slice' hoo; have hbx := bel_call (bel_call (below_drewN bw 1) hbl) hbo; obtain ⟨f0, f1, _, _⟩ := hB1 _ hbx))
              | (go_simp; go_at_call 66; refine (hrc A7 c7 w7 (hsw.call hb7) (own_isn hown7 HTL2.out)).mono ?_; rintro e w8 ⟨v8, rfl, o8, hb8⟩; obtain ⟨A8, c8, rfl, _⟩ := own_slice' o8))
          all_goals
            have hz7 := hb7.size
            have b8w := hb7.trans (hb8.mono hz7)
            by_cases hO0 : b8 = 0
            · have HX := Lib.hid (HN1.out (HFLH.out.1 hO0))
              subst hO0
              go_wp2_with (fail)
              go_roundw
              case rel => exact ⟨p + 1, by omega, by omega, by go_num, HX.out, hb.trans (b8w.mono hsz)⟩
              case measure => simp [intOf]; omega
            · have HX := Lib.hid (HN2.out (fun h => hO0 (HFLH.out.2 h)))
              have hpos : 0 < b8 := by omega
              go_wp2_with (fail)
              go_ret
              exact ⟨_, rfl, by rw [HX.out, tJ_len, HO.out]; exact own_mono o8 (by have := bw.size; omega), bel_call hb0 (bel_call bw b8w)⟩
        · obtain rfl : p = n := by omega
          have HX := Lib.hid (HF0.out c' (HI.out.trans (HFE.out c')))
          go_wp2_with (fail)
          go_ret
          exact ⟨_, rfl, by rw [HX.out]; exact World.ownsRow_nil _ _ _ _, bel_call hb0 bw⟩
end Go.Proofs.YtglijcdnnaekkaaGreat

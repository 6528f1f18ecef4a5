/- BlockWith: the program's search. -/
import Derived.Test.YtglijcdnnaekkaaGreatA207
namespace Go.Proofs.YtglijcdnnaekkaaGreat
set_option linter.unusedVariables false
set_option linter.unusedSimpArgs false
open Go.RowKit

def RVC (out : List Int) (code : Int) (w : World) (e : Ending) (w' : World) : Prop := ∃ A c, e = .returned (.tuple #[.slice A out.length c, .int .i64 code]) ∧ w'.ownsRow w.heap.size 2 1 (.slice A out.length c) out.length (ints out) ∧ Below w.heap.size w w'
theorem rvc_none (w w' : World) (code : Int) (hb : Below w.heap.size w w') : RVC [] code w (.returned (.tuple #[.slice none 0 0, .int .i64 code])) w' := ⟨none, 0, rfl, World.ownsRow_nil _ _ _ _, hb⟩
def gdB (ms : List (List Int)) (x y : Nat) (pts : List Int) : Bool := decide ((x : Int) ∈ pts) && (decide ((y : Int) ∈ pts) && blkB ms pts)
theorem sI_at {n k j : Nat} (h : j < (sI n k 0).length) : ∃ pts, pts ∈ subL n k 0 ∧ gl (sI n k 0) j = tJ pts := by
  have h1 := gl_mem h
  unfold sI at h1
  obtain ⟨pts, h2, h3⟩ := List.mem_map.1 h1
  exact ⟨pts, h2, h3.symm⟩
theorem sI_in {n k j : Nat} (h : j < (sI n k 0).length) : (gl (sI n k 0) j).length = k ∧ ∀ i, i < k → 0 ≤ gt (gl (sI n k 0) j) i ∧ gt (gl (sI n k 0) j) i < (n : Int) := by
  obtain ⟨pts, h1, h2⟩ := sI_at h
  obtain ⟨h3, h4, h5⟩ := (sub_mem (Nat.zero_le _) pts).1 h1
  rw [h2]
  refine ⟨by rw [tJ_len]; exact h3, fun i hi => ?_⟩
  have h6 : gt (tJ pts) i ∈ tJ pts := gt_mem (by rw [tJ_len]; omega)
  obtain ⟨q, hq, e⟩ := mem_tJ.1 h6
  have := h5 q hq
  omega
theorem gd_iff {ms : List (List Int)} {x y : Nat} {pts : List Nat} : gdB ms x y (tJ pts) = true ↔ (x ∈ pts ∧ y ∈ pts ∧ blkB ms (tJ pts) = true) := by
  unfold gdB
  rw [Bool.and_eq_true, Bool.and_eq_true, decide_eq_true_eq, decide_eq_true_eq, mem_tJ', mem_tJ']
theorem gd_found {n : Nat} {ms : List (List Int)} {c : List Int} {x y k j : Nat} (hG : PG n ms) (h : Cls n ms [x, y] c) (hc : Cong n ms c) (hx : x < n) (hy : y < n) (hxy : ap c x = ap c y) (hk : k ≤ (clsN n c x).length) (hj : j < (sI n k 0).length) (hg : gdB ms x y (gl (sI n k 0) j) = true) : gl (sI n k 0) j = tJ (clsN n c x) := by
  obtain ⟨pts, h1, h2⟩ := sI_at hj
  rw [h2] at hg ⊢
  obtain ⟨f1, f2⟩ := find_cls hG h hc hx hy hxy h1
  have hg := gd_iff.1 hg
  by_cases hlt : k < (clsN n c x).length
  · exact absurd hg (f1 hlt)
  · rw [f2 (by omega) hg]
theorem gd_last {n : Nat} {ms : List (List Int)} {c : List Int} {x y k : Nat} (hG : PG n ms) (h : Cls n ms [x, y] c) (hc : Cong n ms c) (hx : x < n) (hy : y < n) (hxy : ap c x = ap c y) (hk : k ≤ (clsN n c x).length) (hno : ∀ j, j < (sI n k 0).length → gdB ms x y (gl (sI n k 0) j) = false) : k < (clsN n c x).length := by
  apply Classical.byContradiction
  intro hlt
  obtain rfl : k = (clsN n c x).length := by omega
  obtain ⟨h1, h2, h3, h4⟩ := cls_found hG h hc hx hy hxy
  obtain ⟨j, hj, e⟩ := List.mem_iff_getElem.1 h1
  have hj' : j < (sI n (clsN n c x).length 0).length := by unfold sI; rw [List.length_map]; exact hj
  have h5 := hno j hj'
  have h6 : gl (sI n (clsN n c x).length 0) j = tJ (clsN n c x) := by
    unfold sI
    simp [gl, List.getElem?_eq_getElem hj, e]
  rw [h6, gd_iff.2 ⟨h2, h3, h4⟩] at h5
  exact absurd h5 (by decide)
/-- What BlockWith answers. -/
def BWP (p : Int) (l : List Int) (a b : Int) (out : List Int) (code : Int) : Prop :=
  (¬ mvL p l [a, b] = 0 ∧ out = [] ∧ code = mvL p l [a, b]) ∨
  (∃ n : Nat, p = n ∧ grpB n l = true ∧ mvL p l [a, b] = 0 ∧ ¬ (orL n l 0).length = n ∧ out = [] ∧ code = 5) ∨
  (∃ n x y : Nat, ∃ c, p = n ∧ a = x ∧ b = y ∧ x < n ∧ y < n ∧ grpB n l = true ∧ mvL p l [a, b] = 0 ∧ (orL n l 0).length = n ∧ Cls n (memL n l) [x, y] c ∧ Cong n (memL n l) c ∧ ap c x = ap c y ∧ out = tJ (clsN n c x) ∧ code = 0)
theorem two_isn (w : World) (a b : Int) : IS (w.alloc (.cells #[.int .i64 a, .int .i64 b] 2)) (w.alloc (.cells #[.int .i64 a, .int .i64 b] 2)).heap.size (some ⟨w.heap.size, 0, none⟩) [a, b] :=
  own_isn (World.ownsRow_lit (base := w.heap.size) w #[.int .i64 a, .int .i64 b] 2 (Nat.le_refl _) (by simp [maxLen]) rfl) rfl
set_option maxRecDepth 20000 in
set_option maxHeartbeats 1000000 in
theorem i_BlockWith (p a b : Int) (A : Option Addr) (L c : Nat) (l : List Int) (out : List Int) (code : Int) (w : World) (hL : L = l.length) (hl : L ≤ 1048576) (hs : IS w w.heap.size A l) (h : BWP p l a b out code) :
    Calls Tryz.prog 12 #[.agg #[.int .i64 p, .slice A L c], .int .i64 a, .int .i64 b] w (RVC out code w) := by
  have B0 := BK.new w 26 #[.int .i64 p, .slice A L c]
  obtain ⟨c0, c1, _, _⟩ := B0.two
  have hb0 := (Below.refl w.heap.size w).alloc (Nat.le_refl _) (.cells #[.int .i64 p, .slice A L c] 26)
  have hs0 := hs.call hb0
  have hB0 := fun W (h : Below (w.alloc (.cells #[.int .i64 p, .slice A L c] 26)).heap.size (w.alloc (.cells #[.int .i64 p, .slice A L c] 26)) W) => (B0.below h (by simp)).two
  have htw := two_isn (w.alloc (.cells #[.int .i64 p, .slice A L c] 26)) a b
  have hze : (w.alloc (.cells #[.int .i64 p, .slice A L c] 26)).heap.size = w.heap.size + 1 := World.size_alloc _ _
  rw [hze] at htw
  clear hze
  have hbt := (Below.refl (w.alloc (.cells #[.int .i64 p, .slice A L c] 26)).heap.size (w.alloc (.cells #[.int .i64 p, .slice A L c] 26))).alloc (Nat.le_refl _) (.cells #[.int .i64 a, .int .i64 b] 2)
  have hmv := i_movedL p A _ L c 2 2 l [a, b] _ hL hl (hs0.call hbt) rfl (by omega) htw
  rcases h with ⟨hne, rfl, hce⟩ | ⟨n, rfl, hg, hm0, hnt, rfl, rfl⟩ | ⟨n, x, y, cl, rfl, rfl, rfl, hx, hy, hg, hm0, htr, hC, hCg, hxy, rfl, rfl⟩
  · rw [← hce] at hmv hne
    have hcz : (code != 0) = true := by rw [bne_iff_ne]; exact hne
    clear hce hL hs hs0 B0 hB0 htw
    go_enter Tryz.func12, Tryz.ntmps12
    go_wp2_with (go_at_call 70; refine hmv.mono ?_; rintro e w2 ⟨rfl, hb2⟩)
    go_ret2
    exact rvc_none _ _ _ (bel_call (bel_call hb0 hbt) hb2)
  · rw [hm0] at hmv
    obtain ⟨n', hn', h1, h2, h3, h4, hk⟩ := grpB_t hg
    obtain rfl : n = n' := by omega
    have htr := fun W h => i_trans n A L c l W h1 h2 hL (by omega) (by omega) hk h
    rw [decide_eq_false hnt] at htr
    have hB2 := fun W h => hB0 W (bel_call hbt h)
    clear hL hs B0 htw hB0 hk hn' hnt hg hm0
    go_enter Tryz.func12, Tryz.ntmps12
    go_wp2_with (first
      | (go_at_call 70; refine hmv.mono ?_; rintro e w2 ⟨rfl, hb2⟩; obtain ⟨d0, d1, _, _⟩ := hB2 _ hb2)
      | (go_at_call 61; refine (htr _ (hs0.call (bel_call hbt hb2))).mono ?_; rintro e w3 ⟨rfl, hb3⟩))
    go_ret2
    exact rvc_none _ _ _ (bel_call (bel_call (bel_call hb0 hbt) hb2) hb3)
  · rw [hm0] at hmv
    obtain ⟨n', hn', h1, h2, h3, h4, hk⟩ := grpB_t hg
    obtain rfl : n = n' := by omega
    have hG := pg_of hg
    have htr' := fun W h => i_trans n A L c l W h1 h2 hL (by omega) (by omega) hk h
    rw [decide_eq_true htr] at htr'
    have hB2 := fun W h => hB0 W (bel_call hbt h)
    have hib := fun Ap m cp pts W hs' h5 h6 h7 h8 h9 => i_isBlock n A Ap L c m cp l pts W h1 h2 hL (by omega) hk hs' h5 h6 h7 h8 h9
    have hfnd := fun k (hk : k ≤ (clsN n cl x).length) j hj hg => gd_found (k := k) (j := j) hG hC hCg hx hy hxy hk hj hg
    have hlst := fun k (hk : k ≤ (clsN n cl x).length) hno => gd_last (k := k) hG hC hCg hx hy hxy hk hno
    have hK1 : 1 ≤ (clsN n cl x).length := List.length_pos_of_mem (mem_cls.2 ⟨hx, rfl⟩)
    have hKn : (clsN n cl x).length ≤ n := by
      unfold clsN
      refine Nat.le_trans (List.length_filter_le _ _) ?_
      simp
    have hsub := fun k W (hk : k ≤ 6) => i_subsets n h2 k 0 W hk (Nat.zero_le _)
    rw [show ((0 : Nat) : Int) = 0 by rfl] at hsub
    have hgd : ∀ pts, gdB (memL n l) x y pts = (decide ((x : Int) ∈ pts) && (decide ((y : Int) ∈ pts) && blkB (memL n l) pts)) := fun _ => rfl
    have hol : (tJ (clsN n cl x)).length = (clsN n cl x).length := tJ_len _
    generalize tJ (clsN n cl x) = out at *
    generalize (clsN n cl x).length = K at *
    generalize gdB (memL n l) x y = gd at *
    generalize blkB (memL n l) = bl at *
    have HFND := Lib.hid hfnd
    have HLST := Lib.hid hlst
    have HGD := Lib.hid hgd
    have HOL := Lib.hid hol
    clear hL B0 htw hB0 hk hn' htr hg hm0 hG hC hCg hxy hfnd hlst hgd hol
    go_enter Tryz.func12, Tryz.ntmps12
    go_wp2_with (first
      | (go_at_call 70; refine hmv.mono ?_; rintro e w2 ⟨rfl, hb2⟩; obtain ⟨d0, d1, _, _⟩ := hB2 _ hb2)
      | (go_at_call 61; refine (htr' _ (hs0.call (bel_call hbt hb2))).mono ?_; rintro e w3 ⟨rfl, hb3⟩))
    have b3 := bel_call (bel_call (bel_call hb0 hbt) hb2) hb3
    have hs3 := hs.call b3
    have hB3 := fun W h => hB2 W (bel_call (bel_call hb2 hb3) h)
    clear hmv htr' d0 d1 hb2 hb3 hB2 hbt hb0 hs0 c0 c1
    go_loopw [9] (fun u9 wr => ∃ k : Nat, 1 ≤ k ∧ k ≤ K ∧ u9 = .int .i64 k ∧ Below w3.heap.size w3 wr) (fun u9 _ => K + 1 - (intOf u9).toNat)
    case atStart => exact ⟨1, Nat.le_refl _, hK1, rfl, Below.refl _ _⟩
    case round =>
      obtain ⟨ws, rfl⟩ : ∃ ws : World, ws = wr := ⟨_, rfl⟩
      obtain ⟨k, hk1, hkK, rfl, hb⟩ := hrel
      have hk6 : k ≤ 6 := by omega
      obtain ⟨d0, d1, _, _⟩ := hB3 _ hb
      have hsk := fun W => hsub k W hk6
      have hfd := HFND.out k hkK
      have hls := HLST.out k hkK
      have hin := fun j h => sI_in (n := n) (k := k) (j := j) h
      have hle := sI_le (n := n) (c := k) (f := 0) h2 (Nat.zero_le _)
      generalize sI n k 0 = ll at *
      generalize hR : ll.length = R at *
      have HR := Lib.hid hR.symm
      have HFD := Lib.hid hfd
      have HLS := Lib.hid hls
      have HIN := Lib.hid hin
      clear hR hfd hls hin
      go_wp2_with (go_at_call 71; refine (hsk _).mono ?_; rintro e w4 ⟨v4, rfl, ⟨vs, ho4, hr4⟩, hb4⟩; rw [← HR.out] at ho4; obtain ⟨A4, c4, rfl, _⟩ := own_slice' ho4)
      have b4 := bel_call hb hb4
      clear hsk d0 d1
      obtain ⟨wo, rfl⟩ : ∃ wo : World, wo = w4 := ⟨_, rfl⟩
      go_loopw [30] (fun u30 wr => ∃ j : Nat, j ≤ R ∧ u30 = .int .i64 j ∧ Hid (∀ i, i < j → gd (gl ll i) = false) ∧ Below wo.heap.size wo wr) (fun u30 _ => R - (intOf u30).toNat)
      case atStart => exact ⟨0, Nat.zero_le _, rfl, fun i hi => by omega, Below.refl _ _⟩
      case round =>
        obtain ⟨wx, rfl⟩ : ∃ wx : World, wx = wr := ⟨_, rfl⟩
        obtain ⟨j, hj, rfl, HI, hbx⟩ := hrel
        by_cases hlt : j < R
        · have hjl : j < ll.length := by rw [← HR.out]; exact hlt
          have hrow := hr4.2.1 j (by rw [hr4.1]; exact hjl)
          obtain ⟨g4, rfl, _, hg4, hc4⟩ := own_src ho4 (by omega)
          have e1 := (hbx.cell (p := ⟨g4, j, none⟩) hg4).trans (hc4 j _ (gv_at (by rw [hr4.1]; exact hjl)))
          obtain ⟨Ai, ci, hvi, _⟩ := own_slice' hrow
          rw [hvi] at e1 hrow
          unfold OwnI at hrow
          obtain ⟨q1, q2⟩ := HIN.out j hlt
          have hfd := HFD.out j hlt
          have hgd := HGD.out (gl ll j)
          have hnx : gd (gl ll j) = false → ∀ i, i < j + 1 → gd (gl ll i) = false := fun h i hi => by
            by_cases hij : i = j
            · subst hij; exact h
            · exact HI.out i (by omega)
          generalize gl ll j = row at *
          rw [q1] at e1 hrow
          have hrow := own_below hrow hbx
          have his := own_isn hrow q1.symm
          have bx := bel_call b4 hbx
          obtain ⟨d0, d1, _, _⟩ := hB3 _ bx
          have hsx := hs3.call bx
          have hcA := fun W h => c_hasInt Ai k ci (x : Int) row W wx.heap.size q1.symm (by omega) h
          have hcB := fun W h => c_hasInt Ai k ci (y : Int) row W wx.heap.size q1.symm (by omega) h
          have hbk := fun W h h' => hib Ai k ci row W h q1.symm hk1 hk6 q2 h'
          generalize decide ((x : Int) ∈ row) = i1 at *
          generalize decide ((y : Int) ∈ row) = i2 at *
          generalize bl row = i3 at *
          have HFD1 := Lib.hid hfd
          have HNX := Lib.hid hnx
          have HROW := Lib.hid hrow
          have HQ1 := Lib.hid q1
          clear hfd hnx hrow hvi q2 hc4
          cases i1
          · have HG := Lib.hid (hgd : gd row = false)
            clear hgd q1
            go_wp2_with (first
              | (go_at_call 72; refine (hcA _ his).mono ?_; rintro e w5 ⟨rfl, q5, rfl⟩))
            go_roundw
            case rel => exact ⟨j + 1, by omega, by go_num, HNX.out HG.out, below_drewN hbx _⟩
            case measure => simp [intOf]; omega
          cases i2
          · have HG := Lib.hid (hgd : gd row = false)
            clear hgd q1
            go_wp2_with (first
              | (go_at_call 72; refine (hcB _ (his.drewN q5)).mono ?_; rintro e w6 ⟨rfl, q6, rfl⟩)
              | (go_at_call 72; refine (hcA _ his).mono ?_; rintro e w5 ⟨rfl, q5, rfl⟩))
            go_roundw
            case rel => exact ⟨j + 1, by omega, by go_num, HNX.out HG.out, by repeat (first | exact hbx | refine below_drewN ?_ _)⟩
            case measure => simp [intOf]; omega
          cases i3
          · have HG := Lib.hid (hgd : gd row = false)
            clear hgd q1
            go_wp2_with (first
              | (go_at_call 73; refine (hbk _ (by first | exact hsx.drewN _ | exact (hsx.drewN _).drewN _) (by first | exact his.drewN _ | exact (his.drewN _).drewN _)).mono ?_; rintro e w7 ⟨rfl, hb7⟩)
              | (go_at_call 72; refine (hcB _ (his.drewN q5)).mono ?_; rintro e w6 ⟨rfl, q6, rfl⟩)
              | (go_at_call 72; refine (hcA _ his).mono ?_; rintro e w5 ⟨rfl, q5, rfl⟩))
            go_roundw
            case rel => exact ⟨j + 1, by omega, by go_num, HNX.out HG.out, bel_call hbx (undrew hb7)⟩
            case measure => simp [intOf]; omega
          · have HG := Lib.hid (HFD1.out (hgd : gd row = true))
            clear hgd q1
            go_wp2_with (first
              | (go_at_call 73; refine (hbk _ (by first | exact hsx.drewN _ | exact (hsx.drewN _).drewN _) (by first | exact his.drewN _ | exact (his.drewN _).drewN _)).mono ?_; rintro e w7 ⟨rfl, hb7⟩)
              | (go_at_call 72; refine (hcB _ (his.drewN q5)).mono ?_; rintro e w6 ⟨rfl, q6, rfl⟩)
              | (go_at_call 72; refine (hcA _ his).mono ?_; rintro e w5 ⟨rfl, q5, rfl⟩))
            have hb7 := undrew hb7
            have hzx := bx.size
            have hbz := (bel_call b3 b4).size
            go_ret2
            have e9 := HG.out
            have e8 := HQ1.out
            subst e9
            refine ⟨Ai, ci, by rw [e8]; rfl, ?_, bel_call b3 (bel_call bx hb7)⟩
            rw [e8]
            exact own_mono (own_below HROW.out hb7) (by have := b3.size; have := hb.size; omega)
        · obtain rfl : j = R := by omega
          have hkl := HLS.out HI.out
          go_wp2_with (fail)
          go_roundw
          case rel => exact ⟨k + 1, by omega, by omega, by go_num, bel_call b4 hbx⟩
          case measure => simp [intOf]; omega
end Go.Proofs.YtglijcdnnaekkaaGreat

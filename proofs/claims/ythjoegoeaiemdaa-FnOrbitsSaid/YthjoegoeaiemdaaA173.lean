/- Orbits: the reference's side, and all orbits on both sides. -/
import Derived.Test.YthjoegoeaiemdaaA172
import Derived.Deep.RegionLaw
namespace Go.Proofs.Ythjoegoeaiemdaa
set_option linter.unusedVariables false
set_option linter.unusedSimpArgs false
open Go.RowKit

set_option maxRecDepth 10000 in
set_option maxHeartbeats 2000000 in
theorem s_orbit (n p : Nat) (A : Option Addr) (L c : Nat) (l : List Int) (w : World) (hn : 1 ≤ n) (hn6 : n ≤ 6) (hL : L = l.length) (hl : L ≤ 1000) (hk : InK n l) (hp : p < n) (hs : IS w w.heap.size A l) :
    Calls Try.prog 65 #[.agg #[.int .i64 n, .slice A L c], .int .i64 p] w (MI w.heap.size (orL n l p).length (orL n l p) w) := by
  have hmb := fun W h => s_elements n A L c l W hn hn6 hL (by omega) hk h
  have hmi := mem_InR hk hL
  have hml := memL_len n l
  rw [← hL] at hml
  rw [orL_flags hk hp, ← hL]
  have hfl := fgS_len n (imL n l p)
  have hst : ∀ k, k < L → fgS n (imL n l p) (k + 1) = (fgS n (imL n l p) k).set (gt (gl (memL n l) k) p).toNat true := fun k h => by rw [fgS, imL_gt (by omega)]
  have hbb0 : ∀ W : World, BB (W.alloc (.cells (madeCells #[.bool false] n) 4)) W.heap.size (fgS n (imL n l p) 0) := fun W => BB.new W n
  generalize fgS n (imL n l p) = fl at *
  generalize memL n l = ll at *
  have hmk := fun W => run_make_row' (P := Try.prog) 118 4 (.bool false) 1 Try.underlying118 infoBool rfl .i64 .i64 n (by omega) (by omega) W
  have B1 := BK.new w 26 #[.int .i64 (n : Int), .slice A L c]
  obtain ⟨c0, c1, _, _⟩ := B1.two
  have hb0 := (Below.refl w.heap.size w).alloc (Nat.le_refl _) (.cells #[.int .i64 (n : Int), .slice A L c] 26)
  have hs0 := hs.call hb0
  have hB1 := fun W (h : Below (w.alloc (.cells #[.int .i64 (n : Int), .slice A L c] 26)).heap.size (w.alloc (.cells #[.int .i64 (n : Int), .slice A L c] 26)) W) => (B1.below h (by simp)).two
  have HMI := Lib.hid hmi
  have HML := Lib.hid hml
  have HFL := Lib.hid hfl
  have HST := Lib.hid hst
  clear hmi hml hL hk hs hfl hst B1
  go_enter Try.func65, Try.ntmps65
  go_wp2_with (go_at_call 68; refine (hmb _ hs0).mono ?_; rintro e w2 ⟨A2, c2, vs, rfl, ho2, hr2, hb2⟩; rw [HML.out] at ho2 ⊢; obtain ⟨d0, d1, _, _⟩ := hB1 _ hb2)
  have hii := OwnII.ii ho2 hr2
  have hbw := bel_call hb0 hb2
  have hzw := hbw.size
  have hbb : BB (w2.alloc (.cells (madeCells #[.bool false] n) 4)) w2.heap.size (fl 0) := hbb0 w2
  have hbg := (Below.refl w2.heap.size w2).alloc (Nat.le_refl _) (.cells (madeCells #[.bool false] n) 4)
  clear ho2 hr2 hb2 hb0 hs0 c0 c1 d0 d1 hB1 hbb0 hmk hmb
  go_loopw [7] (fun u wr => ∃ k : Nat, k ≤ L ∧ u = .int .i64 k ∧ BB wr w2.heap.size (fl k) ∧ Below w2.heap.size w2 wr) (fun u _ => L - (intOf u).toNat)
  case atStart => exact ⟨0, Nat.zero_le _, rfl, hbb, hbg⟩
  case round =>
    clear hbb hbg
    obtain ⟨ws, rfl⟩ : ∃ ws : World, ws = wr := ⟨_, rfl⟩
    obtain ⟨k, hk, rfl, hbb, hb⟩ := hrel
    have hsz := hb.size
    by_cases hlt : k < L
    · have hkl : k < ll.length := by rw [HML.out]; exact hlt
      have hR := HMI.out k hlt
      obtain ⟨b, off, rfl, hbx, hcell⟩ := hii.at hkl
      obtain ⟨Ac, cc, e1, _, _, his⟩ := hcell k hkl
      have e1 := (hb.cell (p := ⟨b, off + k, none⟩) hbx).trans e1
      obtain ⟨b3, off3, rfl, hbb3, hcell3⟩ := his.at (k := p) (by rw [hR.1]; exact hp)
      have e2 := (hb.cell (p := ⟨b3, off3 + p, none⟩) hbb3).trans (hcell3 p (by rw [hR.1]; exact hp))
      rw [hR.1] at e1
      obtain ⟨r1, r2⟩ := hR.2 p hp
      have hst := HST.out k hlt
      obtain ⟨r, hr⟩ := Int.eq_ofNat_of_zero_le r1
      rw [hr] at e2 hst r2
      rw [Int.toNat_natCast] at hst
      have hrF : r < n := by omega
      have hrl : r < (fl k).length := by rw [HFL.out]; exact hrF
      obtain ⟨e3, e4⟩ := hbb.cell hrl
      have hset := hbb.set hrl
      rw [← hst] at hset
      have HSET := Lib.hid hset
      generalize hFk : fl (k + 1) = FK at *
      have HFK := Lib.hid hFk
      clear hset hst hrl hFk hr hcell hcell3 hR his r1 r2
      go_wp2_with (go_quiet (fail))
      go_roundw
      case rel => exact ⟨k + 1, by omega, by go_num, by rw [HFK.out]; exact HSET.out, hb.setCell (Nat.le_refl _) _⟩
      case measure => simp [intOf]; omega
    · obtain rfl : k = L := by omega
      have hls := fun W h => s_listed w2.heap.size n n (fl k) W (HFL.out k).symm (by omega) h
      generalize lsL (fl k) = C at *
      go_wp2_with (go_at_call 125; refine (hls _ hbb).mono ?_; rintro e w6 ⟨v6, rfl, ho6, hb6⟩)
      go_ret
      exact ⟨_, rfl, own_mono ho6 (by omega), bel_call (bel_call hbw hb) hb6⟩
/-- All orbits up to a point. -/
def obL (n : Nat) (l : List Int) (k : Nat) : List (List Int) := ((List.range k).filter fun p => gt (orL n l p) 0 == (p : Int)).map (orL n l)
theorem obL_yes {n k : Nat} {l : List Int} (h : (gt (orL n l k) 0 == (k : Int)) = true) : obL n l (k + 1) = obL n l k ++ [orL n l k] := by
  unfold obL; rw [List.range_succ, List.filter_append, List.map_append]; simp [h]
theorem obL_no {n k : Nat} {l : List Int} (h : (gt (orL n l k) 0 == (k : Int)) = false) : obL n l (k + 1) = obL n l k := by
  unfold obL; rw [List.range_succ, List.filter_append, List.map_append]; simp [h]
theorem obL_le (n : Nat) (l : List Int) (k : Nat) : (obL n l k).length ≤ k := by
  unfold obL; rw [List.length_map]; refine Nat.le_trans (List.length_filter_le _ _) ?_; simp
set_option maxRecDepth 10000 in
set_option maxHeartbeats 2000000 in
theorem i_orbits (n : Nat) (A : Option Addr) (L c : Nat) (l : List Int) (w : World) (hn : 1 ≤ n) (hn6 : n ≤ 6) (hL : L = l.length) (h0 : 0 < L) (hl : L ≤ 1000) (hk : InK n l) (hs : IS w w.heap.size A l) :
    Calls Try.prog 71 #[.agg #[.int .i64 n, .slice A L c]] w (fun e w' => ∃ A' m c' vs, m = (obL n l n).length ∧ e = .returned (.slice A' m c') ∧ w'.ownsRow w.heap.size 24 1 (.slice A' m c') m vs ∧ RowsO w' w.heap.size vs (obL n l n) ∧ Below w.heap.size w w') := by
  have hor := fun p (hp : p < n) W h => i_orbit n p A L c l W hn hn6 hL h0 hl hk hp h
  have hpos := fun p => orL_pos (n := n) (p := p) (l := l) (by omega)
  have hle := fun p (hp : p < n) => orL_len (n := n) (p := p) (l := l) hk hp
  have hyes := fun k h => obL_yes (n := n) (k := k) (l := l) h
  have hno := fun k h => obL_no (n := n) (k := k) (l := l) h
  have hol := fun k => obL_le n l k
  have hob0 : obL n l 0 = [] := rfl
  generalize obL n l = ob at *
  generalize orL n l = orr at *
  have HOR := Lib.hid hor
  have HPOS := Lib.hid hpos
  have HLE := Lib.hid hle
  have HYES := Lib.hid hyes
  have HNO := Lib.hid hno
  have HOL := Lib.hid hol
  have HOB := Lib.hid hob0
  clear hor hpos hle hyes hno hol hob0 hL hk
  obtain ⟨i1, hi1, hy0, hy1, hy2⟩ := info_parts infoSl
  have B0 := BK.new w 26 #[.int .i64 (n : Int), .slice A L c]
  have hb0 := (Below.refl w.heap.size w).alloc (Nat.le_refl _) (.cells #[.int .i64 (n : Int), .slice A L c] 26)
  have hz0 : w.heap.size + 1 ≤ (w.alloc (.cells #[.int .i64 (n : Int), .slice A L c] 26)).heap.size := by simp
  obtain ⟨f0, f1, _, _⟩ := B0.two
  go_enter Try.func71, Try.ntmps71
  go_wp2_with (fail)
  clear f0 f1
  skip; have hlit := World.ownsRow_nil (w.alloc (.cells #[.int .i64 (n : Int), .slice A L c] 26)) (w.heap.size + 1) 24 1; generalize w.alloc (.cells #[.int .i64 (n : Int), .slice A L c] 26) = w0 at *
  go_loopw [3, 8] (fun u3 u9 wr => ∃ (k m : Nat) (vs : List Value), k ≤ n ∧ m ≤ k ∧ u9 = .int .i64 k ∧ wr.ownsRow (w.heap.size + 1) 24 1 u3 m vs ∧ RowsO wr (w.heap.size + 1) vs (ob k) ∧ Hid (m = (ob k).length) ∧ BK wr w.heap.size 26 #[.int .i64 (n : Int), .slice A L c] ∧ Below w.heap.size w wr ∧ w.heap.size + 1 ≤ wr.heap.size) (fun _ u9 _ => n - (intOf u9).toNat)
  case atStart => exact ⟨0, 0, [], Nat.zero_le _, Nat.le_refl _, rfl, hlit, ⟨by rw [HOB.out]; rfl, fun i hi => by simp at hi, fun i j _ hj => by simp at hj⟩, by unfold Hid; rw [HOB.out]; rfl, B0, hb0, hz0⟩
  case round =>
    clear B0 hb0 hz0 hlit
    obtain ⟨ws, rfl⟩ : ∃ ws : World, ws = wr := ⟨_, rfl⟩
    obtain ⟨k, m, vs, hk, hm, rfl, hown, hrows, HM, hbx, hb, hsz⟩ := hrel
    obtain ⟨A3, c3, rfl, _⟩ := own_slice' hown
    obtain ⟨f0, f1, _, _⟩ := hbx.two
    by_cases hlt : k < n
    · have hcall := HOR.out k hlt _ (hs.call hb)
      have hpos := HPOS.out k
      have hle := HLE.out k hlt
      have hyes := HYES.out k
      have hno := HNO.out k
      generalize orr k = o at *
      generalize hX : o.length = X at *
      have HX := Lib.hid hX.symm
      have g0 := fun (A : Option Addr) c (W : World) (h : W.ownsRow ws.heap.size 2 1 (.slice A X c) X (ints o)) => own_src h hpos
      have HG0 := Lib.hid g0
      clear hX g0
      cases ht : (gt o 0 == (k : Int))
      · have HN := Lib.hid (hno ht)
        clear hno hyes
        go_wp2_with (go_at_call 63; refine hcall.mono ?_; rintro e w2 ⟨v2, rfl, ho2, hb2⟩; obtain ⟨Ab, cb, rfl, _⟩ := own_slice' ho2; obtain ⟨g2, rfl, hg2, hg3, hc2⟩ := HG0.out Ab cb _ ho2; have e2 := hc2 0 _ (ints_at (l := o) (k := 0) (by rw [← HX.out]; exact hpos)); obtain ⟨f2, f3, _, _⟩ := (hbx.below hb2 (by omega)).two)
        go_roundw
        case rel => exact ⟨k + 1, m, vs, by omega, by omega, by go_num, own_below hown hb2, by rw [HN.out]; exact hrows.below hb2, by unfold Hid; rw [HN.out]; exact HM.out, hbx.below hb2 (by omega), bel_call hb hb2, by have := hb2.size; omega⟩
        case measure => simp [intOf]; omega
      · have HN := Lib.hid (hyes ht)
        clear hno hyes
        go_wp2_with (first
          | (go_at_call 63; refine hcall.mono ?_; rintro e w2 ⟨v2, rfl, ho2, hb2⟩; obtain ⟨Ab, cb, rfl, _⟩ := own_slice' ho2; obtain ⟨g2, rfl, hg2, hg3, hc2⟩ := HG0.out Ab cb _ ho2; have e2 := hc2 0 _ (ints_at (l := o) (k := 0) (by rw [← HX.out]; exact hpos)); obtain ⟨f2, f3, _, _⟩ := (hbx.below hb2 (by omega)).two)
          | (at_builtin; refine wpList_append_src rfl (.tmp 19) (.tmp 21) 36 rfl (w.heap.size + 1) 24 i1 (.slice none 0 0) 1 24 Try.underlying36 hi1 hy0 hy1 hy2 rfl (by omega) (.slice A3 m c3) m vs rfl (World.ownsRow.alloc (own_below hown hb2) _) (some ⟨w2.heap.size, 0, none⟩) 1 1 [.slice (some ⟨g2, 0, none⟩) X cb] rfl rfl (one_src w2 _ _) (by intro h; cases h) (by intro u hu; simp at hu; subst hu; rfl) (by simp only [maxLen]; omega) (by omega) (by have := hb2.size; simp; omega) ?_; intro v5 w5 hown5 hg5 hat5))
        have hz2 := hb2.size
        have hr5 := row_more (v1 := .slice (some ⟨g2, 0, none⟩) X cb) (b := o) hg5 hown hrows hsz (by rw [← HX.out]; exact ho2) hb2
        have hne0 : (Value.slice A3 m c3).ownBlock ≠ some w.heap.size := fun h => by have := (hown.lt _ h).1; omega
        go_roundw
        case rel =>
          refine ⟨k + 1, m + 1, _, by omega, by omega, by go_num, hown5, by rw [HN.out]; exact hr5, by unfold Hid; rw [HN.out, List.length_append, HM.out]; rfl, BK.kept ((hbx.below hb2 (by omega)).alloc _) hg5 (Ne.symm hne0), ?_, ?_⟩
          · exact ((hb.trans (hb2.mono hb.size)).alloc (by omega) _).grown hg5 (by simp; omega) (fun g hg => by have := (hown.lt g hg).1; omega)
          · have := hg5.size; simp at this; omega
        case measure => simp [intOf]; omega
    · obtain rfl : k = n := by omega
      go_wp2_with (fail)
      go_ret
      exact ⟨_, m, _, vs, HM.out, rfl, own_mono hown (by omega), ⟨hrows.1, fun i hi => own_mono (hrows.2.1 i hi) (by omega), hrows.2.2⟩, hb⟩
set_option maxRecDepth 10000 in
set_option maxHeartbeats 2000000 in
theorem s_orbits (n : Nat) (A : Option Addr) (L c : Nat) (l : List Int) (w : World) (hn : 1 ≤ n) (hn6 : n ≤ 6) (hL : L = l.length) (h0 : 0 < L) (hl : L ≤ 1000) (hk : InK n l) (hs : IS w w.heap.size A l) :
    Calls Try.prog 72 #[.agg #[.int .i64 n, .slice A L c]] w (fun e w' => ∃ A' m c' vs, m = (obL n l n).length ∧ e = .returned (.slice A' m c') ∧ w'.ownsRow w.heap.size 24 1 (.slice A' m c') m vs ∧ RowsO w' w.heap.size vs (obL n l n) ∧ Below w.heap.size w w') := by
  have hor := fun p (hp : p < n) W h => s_orbit n p A L c l W hn hn6 hL hl hk hp h
  have hpos := fun p => orL_pos (n := n) (p := p) (l := l) (by omega)
  have hle := fun p (hp : p < n) => orL_len (n := n) (p := p) (l := l) hk hp
  have hyes := fun k h => obL_yes (n := n) (k := k) (l := l) h
  have hno := fun k h => obL_no (n := n) (k := k) (l := l) h
  have hol := fun k => obL_le n l k
  have hob0 : obL n l 0 = [] := rfl
  generalize obL n l = ob at *
  generalize orL n l = orr at *
  have HOR := Lib.hid hor
  have HPOS := Lib.hid hpos
  have HLE := Lib.hid hle
  have HYES := Lib.hid hyes
  have HNO := Lib.hid hno
  have HOL := Lib.hid hol
  have HOB := Lib.hid hob0
  clear hor hpos hle hyes hno hol hob0 hL hk
  obtain ⟨i1, hi1, hy0, hy1, hy2⟩ := info_parts infoSl
  have B0 := BK.new w 26 #[.int .i64 (n : Int), .slice A L c]
  have hb0 := (Below.refl w.heap.size w).alloc (Nat.le_refl _) (.cells #[.int .i64 (n : Int), .slice A L c] 26)
  have hz0 : w.heap.size + 1 ≤ (w.alloc (.cells #[.int .i64 (n : Int), .slice A L c] 26)).heap.size := by simp
  obtain ⟨f0, f1, _, _⟩ := B0.two
  go_enter Try.func72, Try.ntmps72
  go_wp2_with (fail)
  clear f0 f1
  skip; have hlit := World.ownsRow_lit (base := w.heap.size + 1) (e := 24) (size := 1) (w.alloc (.cells #[.int .i64 (n : Int), .slice A L c] 26)) #[] 0 (by simp) (by simp [maxLen]) rfl; have B0 := B0.alloc (.cells #[] 24); have hb0 := hb0.alloc (by simp) (.cells #[] 24); have hz0 : w.heap.size + 1 ≤ ((w.alloc (.cells #[.int .i64 (n : Int), .slice A L c] 26)).alloc (.cells #[] 24)).heap.size := (by simp); rw [World.size_alloc] at hlit; generalize (w.alloc (.cells #[.int .i64 (n : Int), .slice A L c] 26)).alloc (.cells #[] 24) = w0 at *
  go_loopw [3, 4] (fun u3 u9 wr => ∃ (k m : Nat) (vs : List Value), k ≤ n ∧ m ≤ k ∧ u9 = .int .i64 k ∧ wr.ownsRow (w.heap.size + 1) 24 1 u3 m vs ∧ RowsO wr (w.heap.size + 1) vs (ob k) ∧ Hid (m = (ob k).length) ∧ BK wr w.heap.size 26 #[.int .i64 (n : Int), .slice A L c] ∧ Below w.heap.size w wr ∧ w.heap.size + 1 ≤ wr.heap.size) (fun _ u9 _ => n - (intOf u9).toNat)
  case atStart => exact ⟨0, 0, [], Nat.zero_le _, Nat.le_refl _, rfl, hlit, ⟨by rw [HOB.out]; rfl, fun i hi => by simp at hi, fun i j _ hj => by simp at hj⟩, by unfold Hid; rw [HOB.out]; rfl, B0, hb0, hz0⟩
  case round =>
    clear B0 hb0 hz0 hlit
    obtain ⟨ws, rfl⟩ : ∃ ws : World, ws = wr := ⟨_, rfl⟩
    obtain ⟨k, m, vs, hk, hm, rfl, hown, hrows, HM, hbx, hb, hsz⟩ := hrel
    obtain ⟨A3, c3, rfl, _⟩ := own_slice' hown
    obtain ⟨f0, f1, _, _⟩ := hbx.two
    by_cases hlt : k < n
    · have hcall := HOR.out k hlt _ (hs.call hb)
      have hpos := HPOS.out k
      have hle := HLE.out k hlt
      have hyes := HYES.out k
      have hno := HNO.out k
      generalize orr k = o at *
      generalize hX : o.length = X at *
      have HX := Lib.hid hX.symm
      have g0 := fun (A : Option Addr) c (W : World) (h : W.ownsRow ws.heap.size 2 1 (.slice A X c) X (ints o)) => own_src h hpos
      have HG0 := Lib.hid g0
      clear hX g0
      cases ht : (gt o 0 == (k : Int))
      · have HN := Lib.hid (hno ht)
        clear hno hyes
        go_wp2_with (go_at_call 65; refine hcall.mono ?_; rintro e w2 ⟨v2, rfl, ho2, hb2⟩; obtain ⟨Ab, cb, rfl, _⟩ := own_slice' ho2; obtain ⟨g2, rfl, hg2, hg3, hc2⟩ := HG0.out Ab cb _ ho2; have e2 := hc2 0 _ (ints_at (l := o) (k := 0) (by rw [← HX.out]; exact hpos)); obtain ⟨f2, f3, _, _⟩ := (hbx.below hb2 (by omega)).two)
        go_roundw
        case rel => exact ⟨k + 1, m, vs, by omega, by omega, by go_num, own_below hown hb2, by rw [HN.out]; exact hrows.below hb2, by unfold Hid; rw [HN.out]; exact HM.out, hbx.below hb2 (by omega), bel_call hb hb2, by have := hb2.size; omega⟩
        case measure => simp [intOf]; omega
      · have HN := Lib.hid (hyes ht)
        clear hno hyes
        go_wp2_with (first
          | (go_at_call 65; refine hcall.mono ?_; rintro e w2 ⟨v2, rfl, ho2, hb2⟩; obtain ⟨Ab, cb, rfl, _⟩ := own_slice' ho2; obtain ⟨g2, rfl, hg2, hg3, hc2⟩ := HG0.out Ab cb _ ho2; have e2 := hc2 0 _ (ints_at (l := o) (k := 0) (by rw [← HX.out]; exact hpos)); obtain ⟨f2, f3, _, _⟩ := (hbx.below hb2 (by omega)).two)
          | (at_builtin; refine wpList_append_src rfl (.tmp 21) (.tmp 23) 36 rfl (w.heap.size + 1) 24 i1 (.slice none 0 0) 1 24 Try.underlying36 hi1 hy0 hy1 hy2 rfl (by omega) (.slice A3 m c3) m vs rfl (World.ownsRow.alloc (own_below hown hb2) _) (some ⟨w2.heap.size, 0, none⟩) 1 1 [.slice (some ⟨g2, 0, none⟩) X cb] rfl rfl (one_src w2 _ _) (by intro h; cases h) (by intro u hu; simp at hu; subst hu; rfl) (by simp only [maxLen]; omega) (by omega) (by have := hb2.size; simp; omega) ?_; intro v5 w5 hown5 hg5 hat5))
        have hz2 := hb2.size
        have hr5 := row_more (v1 := .slice (some ⟨g2, 0, none⟩) X cb) (b := o) hg5 hown hrows hsz (by rw [← HX.out]; exact ho2) hb2
        have hne0 : (Value.slice A3 m c3).ownBlock ≠ some w.heap.size := fun h => by have := (hown.lt _ h).1; omega
        go_roundw
        case rel =>
          refine ⟨k + 1, m + 1, _, by omega, by omega, by go_num, hown5, by rw [HN.out]; exact hr5, by unfold Hid; rw [HN.out, List.length_append, HM.out]; rfl, BK.kept ((hbx.below hb2 (by omega)).alloc _) hg5 (Ne.symm hne0), ?_, ?_⟩
          · exact ((hb.trans (hb2.mono hb.size)).alloc (by omega) _).grown hg5 (by simp; omega) (fun g hg => by have := (hown.lt g hg).1; omega)
          · have := hg5.size; simp at this; omega
        case measure => simp [intOf]; omega
    · obtain rfl : k = n := by omega
      go_wp2_with (fail)
      go_ret
      exact ⟨_, m, _, vs, HM.out, rfl, own_mono hown (by omega), ⟨hrows.1, fun i hi => own_mono (hrows.2.1 i hi) (by omega), hrows.2.2⟩, hb⟩
end Go.Proofs.Ythjoegoeaiemdaa

/- Orbits: the reference's side, and all orbits on both sides. -/
import Derived.Test.YtglijcdnnaekkaaGreatA172
import Derived.Deep.RegionLaw
namespace Go.Proofs.YtglijcdnnaekkaaGreat
set_option linter.unusedVariables false
set_option linter.unusedSimpArgs false
open Go.RowKit

set_option maxRecDepth 10000 in
set_option maxHeartbeats 2000000 in
theorem s_orbit (n p : Nat) (A : Option Addr) (L c : Nat) (l : List Int) (w : World) (hn : 1 ≤ n) (hn6 : n ≤ 6) (hL : L = l.length) (hl : L ≤ 1000) (hk : InK n l) (hp : p < n) (hs : IS w w.heap.size A l) :
    Calls Tryz.prog 135 #[.agg #[.int .i64 n, .slice A L c], .int .i64 p] w (MI w.heap.size (orL n l p).length (orL n l p) w) := by
  have hmb := fun W h => s_elements n A L c l W hn hn6 hL (by omega) hk h
  have hmi := mem_InR hk hL
  have hml := memL_len n l
  rw [← hL] at hml
  rw [orL_flags hk hp, ← hL]
  have hfl := fgS_len n (imL n l p)
  have hst : ∀ k, k < L → fgS n (imL n l p) (k + 1) = (fgS n (imL n l p) k).set (gt (gl (memL n l) k) p).toNat true := fun k h => by rw [fgS, imL_gt (by omega)]
  have hbb0 : ∀ W : World, BB (W.alloc (.cells (madeCells #[.bool false] n) 4)) W.heap.size (fgS n (imL n l p) 0) := fun W => BB.new W n
  generalize fgS n (imL n l p) = fl at *
  generalize memL n l = ll at *
  have hmk := fun W => run_make_row' (P := Tryz.prog) 128 4 (.bool false) 1 Tryz.underlying128 infoBool rfl .i64 .i64 n (by omega) (by omega) W
  have B1 := BK.new w 26 #[.int .i64 (n : Int), .slice A L c]
  obtain ⟨c0, c1, _, _⟩ := B1.two
  have hb0 := (Below.refl w.heap.size w).alloc (Nat.le_refl _) (.cells #[.int .i64 (n : Int), .slice A L c] 26)
  have hs0 := hs.call hb0
  have hB1 := fun W (h : Below (w.alloc (.cells #[.int .i64 (n : Int), .slice A L c] 26)).heap.size (w.alloc (.cells #[.int .i64 (n : Int), .slice A L c] 26)) W) => (B1.below h (by simp)).two
  have HMI := Lib.hid hmi
  have HML := Lib.hid hml
  have HFL := Lib.hid hfl
  have HST := Lib.hid hst
  clear hmi hml hL hk hs hfl hst B1
  go_enter Tryz.func135, Tryz.ntmps135
  go_wp2_with (go_at_call 132; refine (hmb _ hs0).mono ?_; rintro e w2 ⟨A2, c2, vs, rfl, ho2, hr2, hb2⟩; rw [HML.out] at ho2 ⊢; obtain ⟨d0, d1, _, _⟩ := hB1 _ hb2)
  have hii := OwnII.ii ho2 hr2
  have hbw := bel_call hb0 hb2
  have hzw := hbw.size
  have hbb : BB (w2.alloc (.cells (madeCells #[.bool false] n) 4)) w2.heap.size (fl 0) := hbb0 w2
  have hbg := (Below.refl w2.heap.size w2).alloc (Nat.le_refl _) (.cells (madeCells #[.bool false] n) 4)
  clear ho2 hr2 hb2 hb0 hs0 c0 c1 d0 d1 hB1 hbb0 hmk hmb
  go_loopw [7] (fun u wr => ∃ k : Nat, k ≤ L ∧ u = .int .i64 k ∧ BB wr w2.heap.size (fl k) ∧ Below w2.heap.size w2 wr) (fun u _ => L - (intOf u).toNat)
  case atStart => exact ⟨0, Nat.zero_le _, rfl, hbb, hbg⟩
  case round =>
    clear hbb hbg
    obtain ⟨ws, rfl⟩ : ∃ ws : World, ws = wr := ⟨_, rfl⟩
    obtain ⟨k, hk, rfl, hbb, hb⟩ := hrel
    have hsz := hb.size
    by_cases hlt : k < L
    · have hkl : k < ll.length := by rw [HML.out]; exact hlt
      have hR := HMI.out k hlt
      obtain ⟨b, off, rfl, hbx, hcell⟩ := hii.at hkl
      obtain ⟨Ac, cc, e1, _, _, his⟩ := hcell k hkl
      have e1 := (hb.cell (p := ⟨b, off + k, none⟩) hbx).trans e1
      obtain ⟨b3, off3, rfl, hbb3, hcell3⟩ := his.at (k := p) (by rw [hR.1]; exact hp)
      have e2 := (hb.cell (p := ⟨b3, off3 + p, none⟩) hbb3).trans (hcell3 p (by rw [hR.1]; exact hp))
      rw [hR.1] at e1
      obtain ⟨r1, r2⟩ := hR.2 p hp
      have hst := HST.out k hlt
      obtain ⟨r, hr⟩ := Int.eq_ofNat_of_zero_le r1
      rw [hr] at e2 hst r2
      rw [Int.toNat_natCast] at hst
      have hrF : r < n := by omega
      have hrl : r < (fl k).length := by rw [HFL.out]; exact hrF
      obtain ⟨e3, e4⟩ := hbb.cell hrl
      have hset := hbb.set hrl
      rw [← hst] at hset
      have HSET := Lib.hid hset
      generalize hFk : fl (k + 1) = FK at *
      have HFK := Lib.hid hFk
      clear hset hst hrl hFk hr hcell hcell3 hR his r1 r2
      go_wp2_with (go_quiet (fail))
      go_roundw
      case rel => exact ⟨k + 1, by omega, by go_num, by rw [HFK.out]; exact HSET.out, hb.setCell (Nat.le_refl _) _⟩
      case measure => simp [intOf]; omega
    · obtain rfl : k = L := by omega
      have hls := fun W h => s_listed w2.heap.size n n (fl k) W (HFL.out k).symm (by omega) h
      generalize lsL (fl k) = C at *
      go_wp2_with (go_at_call 136; refine (hls _ hbb).mono ?_; rintro e w6 ⟨v6, rfl, ho6, hb6⟩)
      go_ret
      exact ⟨_, rfl, own_mono ho6 (by omega), bel_call (bel_call hbw hb) hb6⟩
/-- All orbits up to a point. -/
def obL (n : Nat) (l : List Int) (k : Nat) : List (List Int) := ((List.range k).filter fun p => gt (orL n l p) 0 == (p : Int)).map (orL n l)
theorem obL_yes {n k : Nat} {l : List Int} (h : (gt (orL n l k) 0 == (k : Int)) = true) : obL n l (k + 1) = obL n l k ++ [orL n l k] := by
  unfold obL; rw [List.range_succ, List.filter_append, List.map_append]; simp [h]
theorem obL_no {n k : Nat} {l : List Int} (h : (gt (orL n l k) 0 == (k : Int)) = false) : obL n l (k + 1) = obL n l k := by
  unfold obL; rw [List.range_succ, List.filter_append, List.map_append]; simp [h]
theorem obL_le (n : Nat) (l : List Int) (k : Nat) : (obL n l k).length ≤ k := by
  unfold obL; rw [List.length_map]; refine Nat.le_trans (List.length_filter_le _ _) ?_; simp
end Go.Proofs.YtglijcdnnaekkaaGreat

/- Contracts: the group of some permutations (sorted, compacted ranks), and the listed numbers of flags. -/
import Derived.Test.YtglijcdnnaekkaaGreatA73
import Derived.Test.YtglijcdnnaekkaaGreatShelf
import Derived.Test.YtglijcdnnaekkaaGreatA30
import Derived.Deep.RegionLaw
import Derived.Deep.AppendLies
import Derived.Lib.OwnBridge
import Derived.Sort.OwnSortedInts
namespace Go.Proofs.YtglijcdnnaekkaaGreat
set_option linter.unusedVariables false
set_option linter.unusedSimpArgs false
open Go.RowKit

/-- A slice of slices at address A reads as ll, in blocks below B. -/
def II (w : World) (B : Nat) (A : Option Addr) (ll : List (List Int)) : Prop :=
  0 < ll.length → ∃ b off, A = some ⟨b, off, none⟩ ∧ b < B ∧ ∀ k, k < ll.length → ∃ A' c', w.cell? ⟨b, off + k, none⟩ = some (.slice A' (gl ll k).length c') ∧ (gl ll k).length ≤ c' ∧ c' ≤ maxLen ∧ IS w B A' (gl ll k)
theorem II.below {w w' : World} {B : Nat} {A : Option Addr} {ll : List (List Int)} (h : II w B A ll) (hb : Below B w w') : II w' B A ll := fun h0 => by
  obtain ⟨b, off, rfl, hlt, hc⟩ := h h0
  refine ⟨b, off, rfl, hlt, fun k hk => ?_⟩
  obtain ⟨A', c', h1, h2, h3, h4⟩ := hc k hk
  exact ⟨A', c', by rw [hb.cell hlt]; exact h1, h2, h3, h4.below hb⟩
theorem II.more {w : World} {B B' : Nat} {A : Option Addr} {ll : List (List Int)} (h : II w B A ll) (hB : B ≤ B') : II w B' A ll := fun h0 => by
  obtain ⟨b, off, rfl, hlt, hc⟩ := h h0
  refine ⟨b, off, rfl, by omega, fun k hk => ?_⟩
  obtain ⟨A', c', h1, h2, h3, h4⟩ := hc k hk
  exact ⟨A', c', h1, h2, h3, h4.more hB⟩
theorem II.at {w : World} {B : Nat} {A : Option Addr} {ll : List (List Int)} (h : II w B A ll) {k : Nat} (hk : k < ll.length) :
    ∃ b off, A = some ⟨b, off, none⟩ ∧ b < B ∧ ∀ k, k < ll.length → ∃ A' c', w.cell? ⟨b, off + k, none⟩ = some (.slice A' (gl ll k).length c') ∧ (gl ll k).length ≤ c' ∧ c' ≤ maxLen ∧ IS w B A' (gl ll k) := h (by omega)
theorem own_cap {w : World} {base n c : Nat} {e : TypeId} {A : Option Addr} {xs : List Value} (h : w.ownsRow base e 1 (.slice A n c) n xs) : n ≤ c ∧ c ≤ maxLen := by
  rcases h.2 with ⟨h0, _⟩ | ⟨g, cap, cur, hv, _, _, h1, h2, _⟩
  · cases h0; simp [maxLen]
  · cases hv; exact ⟨h1, h2⟩
theorem OwnII.ii {w : World} {base n c : Nat} {A : Option Addr} {ll : List (List Int)} {vs : List Value} (h : w.ownsRow base 24 1 (.slice A n c) n vs) (hr : RowsO w base vs ll) : II w w.heap.size A ll := fun h0 => by
  have hvl : vs.length = n := by have := h.1; omega
  obtain ⟨g, rfl, _, hlt, hc⟩ := own_src h (by rw [← hvl, hr.1]; exact h0)
  refine ⟨g, 0, rfl, hlt, fun k hk => ?_⟩
  have hk' : k < vs.length := by rw [hr.1]; exact hk
  have hrow := hr.2.1 k hk'
  obtain ⟨A', c', hv, _⟩ := own_slice' hrow
  have hcap := hrow
  unfold OwnI at hcap
  rw [hv] at hcap
  obtain ⟨h1, h2⟩ := own_cap hcap
  refine ⟨A', c', by rw [Nat.zero_add, hc k _ (gv_at hk'), hv], h1, h2, own_isn hcap rfl⟩
theorem c_sort (base g n cap : Nat) (zs : List Int) (w : World) (ho : w.ownsRow base 2 1 (.slice (some ⟨g, 0, none⟩) n cap) n (ints zs)) (hl : n ≤ 1048576) :
    Calls Tryz.prog 174 #[.slice (some ⟨g, 0, none⟩) n cap] w fun e w' => e = .returned (.tuple #[]) ∧ w'.ownsRow base 2 1 (.slice (some ⟨g, 0, none⟩) n cap) n (ints (zs.mergeSort fun x y => decide (x ≤ y))) ∧ w.grownBy w' (some g) := by
  obtain ⟨g', cap', hv, hb, hlt, hnc, hcm, hzl, hH⟩ := Lib.holds_of_ownsRow (enc := Value.int .i64) ho (by intro h; cases h)
  cases hv
  subst hzl
  refine (Tryz.slices_Sort_int g 0 cap zs w hH hlt (by omega)).mono ?_
  rintro e w' ⟨rfl, n, os, rfl⟩
  refine ⟨rfl, ?_, grownBy_sortedI _⟩
  rcases ho.2 with ⟨h0, _⟩ | ⟨g'', cap'', cur, hv, hb', hg, h1, h2, h3, h4⟩
  · cases h0
  · cases hv
    exact ownsRow_sortedI (by simp) hb' hg h1 h2 h3
theorem c_compact (base g n cap : Nat) (zs : List Int) (w : World) (ho : w.ownsRow base 2 1 (.slice (some ⟨g, 0, none⟩) n cap) n (ints zs)) (hl : n ≤ 1048576) :
    Calls Tryz.prog 175 #[.slice (some ⟨g, 0, none⟩) n cap] w fun e w' => e = .returned (.slice (some ⟨g, 0, none⟩) (Lib.compact zs).length cap) ∧ w'.ownsRow base 2 1 (.slice (some ⟨g, 0, none⟩) (Lib.compact zs).length cap) (Lib.compact zs).length (ints (Lib.compact zs)) ∧ w.grownBy w' (some g) := by
  obtain ⟨g', cap', hv, hb, hlt, hnc, hcm, hzl, hH⟩ := Lib.holds_of_ownsRow (enc := Value.int .i64) ho (by intro h; cases h)
  cases hv
  subst hzl
  refine (Tryz.slices_Compact_int g 0 cap zs w hH (by omega) hnc).mono ?_
  rintro e w' ⟨rfl, q, rfl⟩
  have hle := Lib.compact_length_le zs
  have h := Lib.ownsRow_putRow (enc := Value.int .i64) (q := q) (ys := Lib.compact zs ++ List.replicate (zs.length - (Lib.compact zs).length) 0) ho (by simp; omega) hle
  rw [List.take_left] at h
  refine ⟨rfl, h, ?_⟩
  have := grownBy_sortedI (w := w) (g := g) (n := q) (os := #[]) (Lib.compact zs ++ List.replicate (zs.length - (Lib.compact zs).length) 0).toArray
  rwa [Sort.grow_empty] at this
def rkC (ms : List (List Int)) : List Int := Lib.compact ((rksL ms).mergeSort fun x y => decide (x ≤ y))
theorem rksL_take {ms : List (List Int)} {k : Nat} (h : k < ms.length) : rksL (ms.take (k + 1)) = rksL (ms.take k) ++ [((rk (gl ms k) : Nat) : Int)] := by
  simp only [rksL]
  rw [List.take_succ_eq_append_getElem h, List.map_append]
  simp [gl, List.getElem?_eq_getElem h]
def GR (base : Nat) (pts : Int) (l : List Int) (w : World) (e : Ending) (w' : World) : Prop := ∃ v, e = .returned (.agg #[.int .i64 pts, v]) ∧ w'.ownsRow base 2 1 v l.length (ints l) ∧ Below w.heap.size w w'
set_option maxRecDepth 100000 in
set_option maxHeartbeats 4000000 in
theorem i_groupOf (A : Option Addr) (n c : Nat) (pts : Int) (ms : List (List Int)) (w : World) (B : Nat) (hn : n = ms.length) (h0 : 0 < n) (hl : n ≤ 1048576) (hB : B ≤ w.heap.size) (hrow : ∀ k, k < n → (gl ms k).length ≤ 6) (hs : II w B A ms) :
    Calls Tryz.prog 208 #[.int .i64 pts, .slice A n c] w (GR w.heap.size pts (rkC ms) w) := by
  have HN := Lib.hid hn
  have HROW := Lib.hid hrow
  clear hn hrow
  obtain ⟨i0, hi, hz0, hz1, hz2⟩ := info_parts infoI64
  go_enter Tryz.func208, Tryz.ntmps208
  go_wp2_with (fail)
  obtain ⟨B1, B2⟩ := two_boxes w 26 26 #[.int .i64 0, .slice none 0 0] #[.int .i64 pts, .slice none 0 0]
  have hb0 := two_alloc w (.cells #[.int .i64 0, .slice none 0 0] 26) (.cells #[.int .i64 pts, .slice none 0 0] 26)
  have hsz0 : w.heap.size + 2 ≤ ((w.alloc (.cells #[.int .i64 0, .slice none 0 0] 26)).alloc (.cells #[.int .i64 pts, .slice none 0 0] 26)).heap.size := by simp
  generalize ((w.alloc (.cells #[.int .i64 0, .slice none 0 0] 26)).alloc (.cells #[.int .i64 pts, .slice none 0 0] 26)) = w0 at *
  go_loopw [12] (fun u wr => ∃ (k : Nat) (v : Value), k ≤ n ∧ u = .int .i64 k ∧ BK wr w.heap.size 26 #[.int .i64 0, .slice none 0 0] ∧ BK wr (w.heap.size + 1) 26 #[.int .i64 pts, v] ∧ wr.ownsRow (w.heap.size + 2) 2 1 v k (ints (rksL (ms.take k))) ∧ Below w.heap.size w wr ∧ w.heap.size + 2 ≤ wr.heap.size) (fun u _ => n - (intOf u).toNat)
  case atStart => exact ⟨0, _, Nat.zero_le _, rfl, B1, B2, World.ownsRow_nil _ _ _ _, hb0, hsz0⟩
  case round =>
    clear B1 B2 hb0 hsz0
    obtain ⟨ws, rfl⟩ : ∃ ws : World, ws = wr := ⟨_, rfl⟩
    obtain ⟨k, v, hk, rfl, B1, B2, hown, hb, hsz⟩ := hrel
    obtain ⟨A1, c1, rfl, _⟩ := own_slice' hown
    by_cases hlt : k < n
    · obtain ⟨b2, o2, rfl, hb2, hc2⟩ := hs.at (k := k) (by rw [← HN.out]; exact hlt)
      obtain ⟨A2, c2, e2, hlc, hcm, his⟩ := hc2 k (by rw [← HN.out]; exact hlt)
      have e2 := (hb.cell (p := ⟨b2, o2 + k, none⟩) (by show b2 < _; omega)).trans e2
      have hst : rksL (ms.take (k + 1)) = rksL (ms.take k) ++ [((rk (gl ms k) : Nat) : Int)] := rksL_take (by rw [← HN.out]; exact hlt)
      have his' : IS ws B A2 (gl ms k) := his.below (hb.mono hB)
      have hl6 := HROW.out k hlt
      obtain ⟨f0, f1, fz0, fz1⟩ := B2.two
      generalize hL : (gl ms k).length = L at *
      have HL := Lib.hid hL.symm
      generalize hR : rk (gl ms k) = R at *
      have HR := Lib.hid hR
      have HST := Lib.hid hst
      clear hst hL hR hc2 his
      go_wp2_with (fail)
      have hne : (Value.slice A1 k c1).ownBlock ≠ some (w.heap.size + 1) := fun h => by have := (hown.lt _ h).1; omega
      have hx1 : ∀ d o, ((ws.drewN d).alloc o).cell? ⟨w.heap.size + 1, 1, none⟩ = some (.slice A1 k c1) := fun d o => (BK.two ((B2.drewN d).alloc o)).2.1
      have hx2 : ∀ d, (ws.drewN d).cell? ⟨w.heap.size + 1, 1, none⟩ = some (.slice A1 k c1) := fun d => f1
      go_region_law
        (first
          | (go_simp; go_at_call 173; refine (i_rank A2 L c2 (gl ms k) _ B HL.out hl6 hlc hcm (by exact his')).mono ?_; rw [HR.out]; rintro e w' ⟨rfl, nq, rfl⟩)
          | ((refine step_append_lies _ (by rfl) (.tmp 17) (.tmp 20) 24 (by rfl) (w.heap.size + 2) 2 i0 (.int .i64 0) 1 8 Tryz.underlying24 hi hz0 hz1 hz2 rfl (by omega) (.slice A1 k c1) k (ints (rksL (ms.take k))) (by rfl) (by exact World.ownsRow.alloc hown _) ⟨ws.heap.size, 0, none⟩ 1 1 [.int .i64 R] (by rfl) (by rfl) (World.news_of_block (cs := #[.int .i64 R]) (t := 2) (fr := (0, 0)) (heap_alloc_new _ _)) (by simp [Value.oneCell']) (by omega) (by simp only [maxLen]; omega) (by omega) (by simp; omega) (ws.heap.size + 1) (by simp) ?_; intro gg cap w1 hown1 hgrow hat hltg; have hff : w1.frozen? ⟨w.heap.size + 1, 1, none⟩ = false := (by rw [hgrow.frozen_far _ (by simp; omega) (Ne.symm hne)]; exact BK.frozen ((B2.drewN _).alloc _) 1); have hcc : w1.cell? ⟨w.heap.size + 1, 1, none⟩ = some (.slice A1 k c1) := (by rw [hgrow.cell_far _ (by simp; omega) (Ne.symm hne)]; exact (BK.two ((B2.drewN _).alloc _)).2.1))))
      all_goals
        have hne0 : (Value.slice A1 k c1).ownBlock ≠ some w.heap.size := fun h => by have := (hown.lt _ h).1; omega
        have h1 : BK w1 (w.heap.size + 1) 26 #[.int .i64 pts, .slice A1 k c1] := (hgrow.block (w.heap.size + 1) (by simp; omega) (Ne.symm hne)).trans ((B2.drewN _).alloc _)
        have h2 : BK w1 w.heap.size 26 #[.int .i64 0, .slice none 0 0] := (hgrow.block w.heap.size (by simp; omega) (Ne.symm hne0)).trans ((B1.drewN _).alloc _)
        have hb1 : Below w.heap.size w w1 := ((below_drewN hb _).alloc (by simp; omega) _).grown hgrow (by simp; omega) (fun g hg => by have := (hown.lt g hg).1; omega)
        have hsz1 : ws.heap.size + 1 ≤ w1.heap.size := by have := hgrow.size; simpa using this
        clear hx1 hx2 f0 f1 fz0 fz1 hff hcc hgrow B1 B2
        go_wp2_with (fail)
        go_roundw
        case rel =>
          refine ⟨k + 1, .slice (some ⟨gg, 0, none⟩) (k + 1) cap, by omega, by go_num, BK.far h2 (by simp) _, ?_, ownsRow_setCell_below (by rw [HST.out, ints_snoc]; exact hown1) (by simp) _, hb1.setCell (by simp) _, by simp; omega⟩
          have := BK.set h1 1 (.slice (some ⟨gg, 0, none⟩) (k + 1) cap)
          simpa using this
        case measure => simp [intOf]; omega
    · obtain rfl : k = n := by omega
      rw [List.take_of_length_le (by rw [← HN.out]; exact Nat.le_refl _)] at hown
      obtain ⟨g, rfl, hg0, hg1, _⟩ := own_src hown h0
      obtain ⟨f0, f1, fz0, fz1⟩ := B2.two
      obtain ⟨f2, f3, fz2, fz3⟩ := B1.two
      go_wp2_with (fail)
      refine (c_sort _ g k c1 _ _ hown hl).mono ?_
      rintro e w2 ⟨rfl, hown2, hgr2⟩
      have h1 : BK w2 (w.heap.size + 1) 26 #[.int .i64 pts, .slice (some ⟨g, 0, none⟩) k c1] := (hgr2.block (w.heap.size + 1) (by omega) (fun e => by injection e; omega)).trans B2
      have h2 : BK w2 w.heap.size 26 #[.int .i64 0, .slice none 0 0] := (hgr2.block w.heap.size (by omega) (fun e => by injection e; omega)).trans B1
      have hb2 : Below w.heap.size w w2 := hb.grown hgr2 (by omega) (fun x hx => by injection hx; omega)
      have hsz2 := hgr2.size
      clear f0 f1 fz0 fz1 f2 f3 fz2 fz3 B1 B2
      obtain ⟨f0, f1, fz0, fz1⟩ := h1.two
      go_wp2_with (fail)
      refine (c_compact _ g k c1 _ _ hown2 hl).mono ?_
      rintro e w3 ⟨rfl, hown3, hgr3⟩
      have h3 : BK w3 (w.heap.size + 1) 26 #[.int .i64 pts, .slice (some ⟨g, 0, none⟩) k c1] := (hgr3.block (w.heap.size + 1) (by omega) (fun e => by injection e; omega)).trans h1
      have h4 : BK w3 w.heap.size 26 #[.int .i64 0, .slice none 0 0] := (hgr3.block w.heap.size (by omega) (fun e => by injection e; omega)).trans h2
      have hb3 : Below w.heap.size w w3 := hb2.grown hgr3 (by omega) (fun x hx => by injection hx; omega)
      clear f0 f1 fz0 fz1 h1 h2
      obtain ⟨f0, f1, fz0, fz1⟩ := h3.two
      obtain ⟨f2, f3, fz2, fz3⟩ := h4.two
      change BK w3 _ _ _ at h3
      generalize hC : Lib.compact ((rksL ms).mergeSort fun x y => decide (x ≤ y)) = C at *
      have HC := Lib.hid hC
      clear hC
      go_wp2_with (fail)
      have h5 := ((h4.far (p := ⟨w.heap.size + 1, 1, none⟩) (by simp) (.slice (some ⟨g, 0, none⟩) C.length c1)).set 0 (.int .i64 pts)).set 1 (.slice (some ⟨g, 0, none⟩) C.length c1)
      have hb5 := ((hb3.setCell (p := ⟨w.heap.size + 1, 1, none⟩) (by simp) (.slice (some ⟨g, 0, none⟩) C.length c1)).setCell (p := ⟨w.heap.size, 0, none⟩) (by simp) (.int .i64 pts)).setCell (p := ⟨w.heap.size, 1, none⟩) (by simp) (.slice (some ⟨g, 0, none⟩) C.length c1)
      have ho5 := ownsRow_setCell_below (ownsRow_setCell_below (ownsRow_setCell_below hown3 (a := ⟨w.heap.size + 1, 1, none⟩) (by simp) (.slice (some ⟨g, 0, none⟩) C.length c1)) (a := ⟨w.heap.size, 0, none⟩) (by simp) (.int .i64 pts)) (a := ⟨w.heap.size, 1, none⟩) (by simp) (.slice (some ⟨g, 0, none⟩) C.length c1)
      generalize (((w3.setCell ⟨w.heap.size + 1, 1, none⟩ (.slice (some ⟨g, 0, none⟩) C.length c1)).setCell ⟨w.heap.size, 0, none⟩ (.int .i64 pts)).setCell ⟨w.heap.size, 1, none⟩ (.slice (some ⟨g, 0, none⟩) C.length c1)) = w4 at *
      obtain ⟨d0, d1, _, _⟩ := BK.two (x := .int .i64 pts) (y := .slice (some ⟨g, 0, none⟩) C.length c1) (by simpa using h5)
      refine bodyPost_ret (v := .agg #[.int .i64 pts, .slice (some ⟨g, 0, none⟩) C.length c1]) (by simp [results, Tryz.results208, go_sem, d0, d1]; try rfl) rfl ?_
      unfold rkC
      rw [HC.out]
      exact ⟨_, rfl, own_mono ho5 (by omega), hb5⟩
end Go.Proofs.YtglijcdnnaekkaaGreat

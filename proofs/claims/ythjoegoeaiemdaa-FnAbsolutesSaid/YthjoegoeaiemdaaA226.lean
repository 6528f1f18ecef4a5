/- Draws of values, rings, residues. -/
import Derived.Test.YthjoegoeaiemdaaA112
import Derived.Test.YthjoegoeaiemdaaA40
import Derived.Test.YthjoegoeaiemdaaA50
import Derived.BigQuiet
namespace Go.Proofs.Ythjoegoeaiemdaa
set_option linter.unusedVariables false
set_option linter.unusedSimpArgs false
open Go.RowKit

set_option maxRecDepth 20000 in
set_option maxHeartbeats 2000000 in
theorem s_l01DrawValue (g : Nat) (w : World) (hs : SRC w g) : Calls Try.prog 79 #[.pointer (some ⟨g, 0, none⟩)] w (NX g (fun r => -1000000000001 ≤ r ∧ r ≤ 1000000000001) w) := by
  have hp1 := fun W h => s_pick6 g 0 1000000000000 1000000000001 (-1000000000000) (-1000000000001) 1 W h
  have hp2 := fun x y z W h => s_pick3 g x y z W h
  have u0 : Up g w.heap.size w w := Up.refl
  go_enter Try.func79, Try.ntmps79
  go_wp2_with (fail)
  refine (s_nextI g 10 (by omega) _ hs).mono ?_
  rintro e w2 ⟨k2, rfl, hk2, hsw2, huw2⟩
  have uw2 := u0.call huw2
  by_cases hk0 : k2 = 0
  · have hz : ((k2 : Int) == 0) = true := by rw [beq_iff_eq]; omega
    clear hk0 hp2
    go_wp2_with (fail)
    refine (hp1 _ hsw2).mono ?_
    rintro e w3 ⟨r, rfl, hr, hs3, hu3⟩
    go_wp2_with (fail)
    go_ret
    exact ⟨r, rfl, by simp at hr; omega, hs3, uw2.call hu3⟩
  · have hz : ((k2 : Int) == 0) = false := by rw [beq_eq_false_iff_ne]; omega
    clear hk0 hp1
    go_wp2_with (fail)
    refine (s_nextI g 41 (by omega) _ hsw2).mono ?_
    rintro e w3 ⟨k3, rfl, hk3, hsw3, huw3⟩
    have uw3 := uw2.call huw3
    go_wp2_with (fail)
    refine (s_nextI g 2001 (by omega) _ hsw3).mono ?_
    rintro e w4 ⟨k4, rfl, hk4, hsw4, huw4⟩
    have uw4 := uw3.call huw4
    go_wp2_with (fail)
    refine (s_nextI g 2000000001 (by omega) _ hsw4).mono ?_
    rintro e w5 ⟨k5, rfl, hk5, hsw5, huw5⟩
    have uw5 := uw4.call huw5
    go_wp2_with (fail)
    refine (hp2 _ _ _ _ hsw5).mono ?_
    rintro e w6 ⟨r, rfl, hr, hs6, hu6⟩
    have hr : -1000000000001 ≤ r ∧ r ≤ 1000000000001 := by
      simp at hr
      omega
    go_wp2_with (fail)
    go_ret
    exact ⟨r, rfl, hr, hs6, uw5.call hu6⟩
/-- A ring is stored into a result's cell. -/
theorem rg_close {w W : World} {g r : Nat} {x y : Value} (p n : Value) (hs : SRC W g) (hB : BK W r 93 #[x, y]) (hgr : g < r) (hr : w.heap.size ≤ r) (hu : Up g w.heap.size w W) :
    ((W.setCell ⟨r, 0, none⟩ p).setCell ⟨r, 1, none⟩ n).cell? ⟨r, 0, none⟩ = some p ∧ ((W.setCell ⟨r, 0, none⟩ p).setCell ⟨r, 1, none⟩ n).cell? ⟨r, 1, none⟩ = some n ∧
    SRC ((W.setCell ⟨r, 0, none⟩ p).setCell ⟨r, 1, none⟩ n) g ∧ Up g w.heap.size w ((W.setCell ⟨r, 0, none⟩ p).setCell ⟨r, 1, none⟩ n) := by
  have h5 := (hB.set 0 p).set 1 n
  have hb : Below r W ((W.setCell ⟨r, 0, none⟩ p).setCell ⟨r, 1, none⟩ n) := ((Below.refl _ _).setCell (p := ⟨r, 0, none⟩) (Nat.le_refl _) p).setCell (p := ⟨r, 1, none⟩) (Nat.le_refl _) _
  obtain ⟨d0, d1, _, _⟩ := BK.two (x := p) (y := n) (by simpa using h5)
  exact ⟨d0, d1, hs.below hb hgr, hu.trans (Up.of (hb.mono hr))⟩
theorem bk_up {g r : Nat} {w w' : World} {t : TypeId} {cs : Array Value} {B : Nat} (h : BK w r t cs) (hu : Up g B w w') (hr : r < B) (hne : r ≠ g) : BK w' r t cs := by
  unfold BK at h ⊢
  rw [hu.block _ hr hne]
  exact h
/-- A ring that a draw hands back. -/
def RD (g : Nat) (P : Int → Int → Prop) (w : World) (e : Ending) (w' : World) : Prop := ∃ p n : Int, e = .returned (.agg #[.int .i64 p, .int .i64 n]) ∧ P p n ∧ SRC w' g ∧ Up g w.heap.size w w'
theorem md_small : ∀ p : Fin 14, ∀ n : Fin 7, 2 ≤ p.val → md p.val n.val ≠ 0 := by decide +kernel
set_option maxRecDepth 20000 in
set_option maxHeartbeats 2000000 in
theorem s_l02Valid (g : Nat) (w : World) (hs : SRC w g) : Calls Try.prog 167 #[.pointer (some ⟨g, 0, none⟩)] w (RD g (fun p n => 2 ≤ p ∧ p ≤ 13 ∧ 1 ≤ n ∧ n ≤ 6) w) := by
  have hpk := fun W h => s_pick9 g 2 3 5 7 2 3 5 11 13 W h
  have hgw := hs.lt
  have B0 := BK.new w 93 #[.int .i64 0, .int .i64 0]
  have hb0 := (Below.refl w.heap.size w).alloc (Nat.le_refl _) (.cells #[.int .i64 0, .int .i64 0] 93)
  have hs0 := hs.call hb0
  have u0 := Up.of (g := g) hb0
  have hz0 : (w.alloc (.cells #[.int .i64 0, .int .i64 0] 93)).heap.size = w.heap.size + 1 := World.size_alloc _ _
  have hpk0 := hpk _ hs0
  rw [hz0] at hpk0
  go_enter Try.func167, Try.ntmps167
  go_wp2_with (fail)
  generalize w.alloc (.cells #[.int .i64 0, .int .i64 0] 93) = w0 at *
  refine hpk0.mono ?_
  rintro e w1 ⟨r, rfl, hr, hs1, hu1⟩
  rw [← hz0] at hu1
  have u1 := u0.call hu1
  have B1 := bk_up B0 hu1 (by omega) (by omega)
  have hz1 := hu1.size
  have hp : ∃ p : Nat, r = p ∧ 2 ≤ p ∧ p ≤ 13 := ⟨r.toNat, by simp at hr; omega, by simp at hr; omega, by simp at hr; omega⟩
  obtain ⟨p, rfl, hp2, hp13⟩ := hp
  clear hr hpk hpk0 u0 hs0 hu1 B0
  go_wp2_with (fail)
  refine (s_nextI g 6 (by omega) _ hs1).mono ?_
  rintro e w2 ⟨k2, rfl, hk2, hsw2, huw2⟩
  have uw2 := u1.call huw2
  have B2 := bk_up B1 huw2 (by omega) (by omega)
  have hz2 := huw2.size
  clear hs1 u1 B1 huw2
  obtain ⟨n, hn⟩ : ∃ n : Nat, (n : Int) = 1 + (k2 : Int) := ⟨1 + k2, by omega⟩
  have hn1 : 1 ≤ n ∧ n ≤ 6 := by omega
  have hmd := md_small ⟨p, by omega⟩ ⟨n, by omega⟩ hp2
  have hmo := fun W => s_l02Modulus p n W hp2 (by omega) (by omega)
  have hmd : md p n ≠ 0 := hmd
  generalize md p n = m at *
  have hmz : ((m : Int) == 0) = false := by rw [beq_eq_false_iff_ne]; omega
  have HN := Lib.hid hn
  clear hmd
  go_wp2_with (fail)
  go_loopw [4] (fun u4 wr => u4 = .int .i64 (n : Int) ∧ SRC wr g ∧ BK wr w.heap.size 93 #[.int .i64 0, .int .i64 0] ∧ Up g w.heap.size w wr) (fun _ _ => 0)
  case atStart => exact ⟨by rw [HN.out], hsw2, B2, uw2⟩
  case round =>
    clear hsw2 B2 uw2
    obtain ⟨ws, rfl⟩ : ∃ ws : World, ws = wr := ⟨_, rfl⟩
    obtain ⟨rfl, hs3, B3, u3⟩ := hrel
    clear hn
    go_wp2_with (go_at_call 84; refine (hmo _).mono ?_; rintro e w3 ⟨rfl, q3, rfl⟩; obtain ⟨_, _, f0, f1⟩ := (B3.drewN q3).two)
    obtain ⟨d0, d1, hs7, u7⟩ := rg_close (w := w) (.int .i64 (p : Int)) (.int .i64 (n : Int)) (hs3.drewN q3) (B3.drewN q3) hgw (Nat.le_refl _) (u3.drewN q3)
    generalize ((ws.drewN q3).setCell ⟨w.heap.size, 0, none⟩ (.int .i64 (p : Int))).setCell ⟨w.heap.size, 1, none⟩ (.int .i64 (n : Int)) = w7 at *
    refine bodyPost_ret (v := .agg #[.int .i64 (p : Int), .int .i64 (n : Int)]) (by simp [results, Try.results167, go_sem, d0, d1]) rfl ?_
    exact ⟨p, n, rfl, ⟨by omega, by omega, by omega, by omega⟩, hs7, u7⟩
set_option maxRecDepth 20000 in
set_option maxHeartbeats 2000000 in
theorem s_l02Draw (g : Nat) (w : World) (hs : SRC w g) : Calls Try.prog 135 #[.pointer (some ⟨g, 0, none⟩)] w (RD g (fun p n => -3 ≤ p ∧ p ≤ 101 ∧ -1 ≤ n ∧ n ≤ 30) w) := by
  have hv := fun W h => s_l02Valid g W h
  have hdp := fun W h => s_l01DrawPrime g W h
  have hpk := fun W h => s_pick6 g 0 1 29 30 12 (-1) W h
  have hgw := hs.lt
  have B0 := BK.new w 93 #[.int .i64 0, .int .i64 0]
  have hb0 := (Below.refl w.heap.size w).alloc (Nat.le_refl _) (.cells #[.int .i64 0, .int .i64 0] 93)
  have hs0 := hs.call hb0
  have u0 := Up.of (g := g) hb0
  have hz0 : (w.alloc (.cells #[.int .i64 0, .int .i64 0] 93)).heap.size = w.heap.size + 1 := World.size_alloc _ _
  go_enter Try.func135, Try.ntmps135
  go_wp2_with (fail)
  refine (hv _ hs0).mono ?_
  rintro e w1 ⟨p, n, rfl, ⟨hp1, hp2, hn1, hn2⟩, hs1, hu1⟩
  have u1 := u0.call hu1
  generalize w.alloc (.cells #[.int .i64 0, .int .i64 0] 93) = w0 at *
  have B1 := bk_up B0 hu1 (by omega) (by omega)
  have hz1 := hu1.size
  have hb1 := (Below.refl w1.heap.size w1).alloc (Nat.le_refl _) (.cells #[.int .i64 p, .int .i64 n] 93)
  have G1 := BK.new w1 93 #[.int .i64 p, .int .i64 n]
  have hs2 := hs1.call hb1
  have B2 := B1.below hb1 (by omega)
  have u2 := u1.thenB hb1
  have hz2 : (w1.alloc (.cells #[.int .i64 p, .int .i64 n] 93)).heap.size = w1.heap.size + 1 := World.size_alloc _ _
  clear hu1 u0 u1 B0 B1 hs0 hs1 hv hb1 hs
  go_wp2_with (fail)
  generalize w1.alloc (.cells #[.int .i64 p, .int .i64 n] 93) = w2 at *
  refine (s_nextI g 20 (by omega) _ hs2).mono ?_
  rintro e w3 ⟨k, rfl, hk, hs3, hu3⟩
  have hz3 := hu3.size
  have B3 := bk_up B2 hu3 (by omega) (by omega)
  have G3 := bk_up G1 hu3 (by omega) (by omega)
  have u3 := u2.call hu3
  obtain ⟨g0, g1, gf0, gf1⟩ := G3.two
  obtain ⟨r0, r1, rf0, rf1⟩ := B3.two
  clear B2 G1 u2 hs2 hu3
  have hk4 : k = 0 ∨ k = 1 ∨ 1 < k := by omega
  rcases hk4 with rfl | rfl | hk2
  · go_wp2_with (fail)
    refine (hdp _ hs3).mono ?_
    rintro e w4 ⟨q, rfl, ⟨hq1, hq2⟩, hs4, hu4⟩
    have u4 := u3.call hu4
    have hz4 := hu4.size
    have B4 := (bk_up B3 hu4 (by omega) (by omega))
    have G4 := (bk_up G3 hu4 (by omega) (by omega))
    obtain ⟨p0, p1, pf0, pf1⟩ := G4.two
    have G5 := G4.set 0 (.int .i64 q)
    have hb5 := (Below.refl w1.heap.size w4).setCell (p := ⟨w1.heap.size, 0, none⟩) (Nat.le_refl _) (.int .i64 q)
    have B5 := B4.below hb5 (by omega)
    have hs5 := hs4.below hb5 (by omega)
    have u5 := u4.trans (Up.of (hb5.mono (B' := w.heap.size) (by omega)))
    have G5 : BK (w4.setCell ⟨w1.heap.size, 0, none⟩ (.int .i64 q)) w1.heap.size 93 #[.int .i64 q, .int .i64 n] := by simpa using G5
    obtain ⟨s0, s1, _, _⟩ := G5.two
    obtain ⟨_, _, t0, t1⟩ := B5.two
    clear B3 G3 B4 G4 hs3 hs4 u3 u4 hu4 g0 g1 r0 r1
    go_wp2_with (fail)
    generalize hW : w4.setCell ⟨w1.heap.size, 0, none⟩ (.int .i64 q) = w5 at *
    go_wp2_with (fail)
    obtain ⟨e0, e1, hs9, u9⟩ := rg_close (w := w) (.int .i64 q) (.int .i64 n) hs5 B5 hgw (Nat.le_refl _) u5
    generalize (w5.setCell ⟨w.heap.size, 0, none⟩ (.int .i64 q)).setCell ⟨w.heap.size, 1, none⟩ (.int .i64 n) = w9 at *
    refine bodyPost_ret (v := .agg #[.int .i64 q, .int .i64 n]) (by simp [results, Try.results135, go_sem, e0, e1]) rfl ?_
    exact ⟨q, n, rfl, ⟨by omega, by omega, by omega, by omega⟩, hs9, u9⟩
  · go_wp2_with (fail)
    refine (hpk _ hs3).mono ?_
    rintro e w4 ⟨q, rfl, hq, hs4, hu4⟩
    have hq : -1 ≤ q ∧ q ≤ 30 := by simp at hq; omega
    have u4 := u3.call hu4
    have hz4 := hu4.size
    have B4 := (bk_up B3 hu4 (by omega) (by omega))
    have G4 := (bk_up G3 hu4 (by omega) (by omega))
    obtain ⟨p0, p1, pf0, pf1⟩ := G4.two
    have G5 := G4.set 1 (.int .i64 q)
    have hb5 := (Below.refl w1.heap.size w4).setCell (p := ⟨w1.heap.size, 1, none⟩) (Nat.le_refl _) (.int .i64 q)
    have B5 := B4.below hb5 (by omega)
    have hs5 := hs4.below hb5 (by omega)
    have u5 := u4.trans (Up.of (hb5.mono (B' := w.heap.size) (by omega)))
    have G5 : BK (w4.setCell ⟨w1.heap.size, 1, none⟩ (.int .i64 q)) w1.heap.size 93 #[.int .i64 p, .int .i64 q] := by simpa using G5
    obtain ⟨s0, s1, _, _⟩ := G5.two
    obtain ⟨_, _, t0, t1⟩ := B5.two
    clear B3 G3 B4 G4 hs3 hs4 u3 u4 hu4 g0 g1 r0 r1
    go_wp2_with (fail)
    generalize hW : w4.setCell ⟨w1.heap.size, 1, none⟩ (.int .i64 q) = w5 at *
    go_wp2_with (fail)
    obtain ⟨e0, e1, hs9, u9⟩ := rg_close (w := w) (.int .i64 p) (.int .i64 q) hs5 B5 hgw (Nat.le_refl _) u5
    generalize (w5.setCell ⟨w.heap.size, 0, none⟩ (.int .i64 p)).setCell ⟨w.heap.size, 1, none⟩ (.int .i64 q) = w9 at *
    refine bodyPost_ret (v := .agg #[.int .i64 p, .int .i64 q]) (by simp [results, Try.results135, go_sem, e0, e1]) rfl ?_
    exact ⟨p, q, rfl, ⟨by omega, by omega, by omega, by omega⟩, hs9, u9⟩
  · have t0 : ((k : Int) == 0) = false := by rw [beq_eq_false_iff_ne]; omega
    have t1 : ((k : Int) == 1) = false := by rw [beq_eq_false_iff_ne]; omega
    go_wp2_with (fail)
    obtain ⟨e0, e1, hs9, u9⟩ := rg_close (w := w) (.int .i64 p) (.int .i64 n) hs3 B3 hgw (Nat.le_refl _) u3
    generalize (w3.setCell ⟨w.heap.size, 0, none⟩ (.int .i64 p)).setCell ⟨w.heap.size, 1, none⟩ (.int .i64 n) = w9 at *
    refine bodyPost_ret (v := .agg #[.int .i64 p, .int .i64 n]) (by simp [results, Try.results135, go_sem, e0, e1]) rfl ?_
    exact ⟨p, n, rfl, ⟨by omega, by omega, by omega, by omega⟩, hs9, u9⟩
end Go.Proofs.Ythjoegoeaiemdaa

/- Fractions in lowest terms; draws of rational numbers. -/
import Derived.Test.YthjoegoeaiemdaaA226
import Derived.Test.YthjoegoeaiemdaaA30
import Derived.RegionTactic
namespace Go.Proofs.Ythjoegoeaiemdaa
set_option linter.unusedVariables false
set_option linter.unusedSimpArgs false
open Go.RowKit

/-- A fraction's numerator and denominator in lowest terms. -/
def mkN (n d : Int) : Int := n / (Int.gcd n d : Int)
def mkD (n d : Int) : Int := d / (Int.gcd n d : Int)
theorem mk_rat {n d : Int} (h1 : -1000000000000 ≤ n) (h2 : n ≤ 1000000000000) (h3 : 1 ≤ d) (h4 : d ≤ 1000000000000) :
    ratB (mkN n d) (mkD n d) = true ∧ (1 ≤ mkD n d ∧ mkD n d ≤ d) ∧ (-1000000000000 ≤ mkN n d ∧ mkN n d ≤ 1000000000000) ∧ 1 ≤ Int.gcd n d ∧ n.tdiv (Int.gcd n d : Int) = mkN n d ∧ (Int.gcd n d : Int) ≤ d := by
  have hg : 0 < Int.gcd n d := Int.gcd_pos_of_ne_zero_right n (by omega)
  have d1 : (Int.gcd n d : Int) ∣ n := Int.gcd_dvd_left ..
  have d2 : (Int.gcd n d : Int) ∣ d := Int.gcd_dvd_right ..
  have e1 : n.tdiv (Int.gcd n d : Int) = mkN n d := Int.tdiv_eq_ediv_of_dvd d1
  have hN : mkN n d * (Int.gcd n d : Int) = n := Int.ediv_mul_cancel d1
  have hD : mkD n d * (Int.gcd n d : Int) = d := Int.ediv_mul_cancel d2
  have hgl : (Int.gcd n d : Int) ≤ d := Int.le_of_dvd (by omega) d2
  have hgc : Int.gcd (mkN n d) (mkD n d) = 1 := by
    have h := Int.gcd_mul_right (mkN n d) (Int.gcd n d : Int) (mkD n d)
    rw [hN, hD, Int.natAbs_natCast] at h
    exact Nat.eq_of_mul_eq_mul_right hg (by rw [← h, Nat.one_mul])
  generalize mkN n d = N at *
  generalize mkD n d = D at *
  generalize Int.gcd n d = g at *
  have hD1 : 1 ≤ D := by
    by_cases h : 0 < D
    · omega
    · have := Int.mul_le_mul_of_nonneg_right (show D ≤ 0 by omega) (show (0 : Int) ≤ g by omega); omega
  have hDd : D ≤ d := by
    have := Int.mul_le_mul_of_nonneg_left (show (1 : Int) ≤ g by omega) (show 0 ≤ D by omega); omega
  have hNa : N.natAbs ≤ n.natAbs := by
    rw [← hN, Int.natAbs_mul, Int.natAbs_natCast]
    exact Nat.le_mul_of_pos_right _ hg
  refine ⟨?_, ⟨hD1, hDd⟩, by omega, by omega, e1, hgl⟩
  unfold ratB valB inB
  simp [hgc]
  omega
theorem s_IsRationalT (a b : Int) (w : World) (h : ratB a b = true) : Calls Try.prog 107 #[.agg #[.int .i64 a, .int .i64 b]] w (M (.bool true) w) := by rw [← h]; exact s_IsRational a b w
set_option maxHeartbeats 2000000 in
theorem s_l05Make (n d : Int) (w : World) (h1 : -1000000000000 ≤ n) (h2 : n ≤ 1000000000000) (h3 : 1 ≤ d) (h4 : d ≤ 1000000000000) :
    Calls Try.prog 172 #[.int .i64 n, .int .i64 d] w (MR (mkN n d) (mkD n d) 0 w) := by
  obtain ⟨hr, ⟨hD1, hD2⟩, ⟨hN1, hN2⟩, hg, ht, hgd⟩ := mk_rat h1 h2 h3 h4
  have hir := fun W => s_IsRationalT _ _ W hr
  have htd : d.tdiv (Int.gcd n d : Int) = mkD n d := Int.tdiv_eq_ediv_of_nonneg (by omega)
  have hed : d / (Int.gcd n d : Int) = mkD n d := rfl
  have hgc := fun W => s_l01Gcd n d W (by omega) (by omega) (by omega) (by omega)
  generalize mkN n d = N at *
  generalize mkD n d = D at *
  generalize Int.gcd n d = g at *
  clear hr
  have B0 := BK.new w 61 #[.int .i64 0, .int .i64 0]
  have hb0 := (Below.refl w.heap.size w).alloc (Nat.le_refl _) (.cells #[.int .i64 0, .int .i64 0] 61)
  go_enter Try.func172, Try.ntmps172
  go_wp2_with (go_at_call 152; refine (hgc _).mono ?_; rintro e w' ⟨rfl, nq, rfl⟩)
  have hb1 := below_drewN hb0 nq
  have B1 := B0.drewN nq
  generalize (w.alloc (.cells #[.int .i64 0, .int .i64 0] 61)).drewN nq = w0 at *
  clear B0 hb0 hgc
  have G := BK.new w0 61 #[.int .i64 N, .int .i64 D]
  have hbx := (Below.refl w0.heap.size w0).alloc (Nat.le_refl _) (.cells #[.int .i64 N, .int .i64 D] 61)
  have hF := fun W (h : Below (w0.alloc (.cells #[.int .i64 N, .int .i64 D] 61)).heap.size (w0.alloc (.cells #[.int .i64 N, .int .i64 D] 61)) W) => And.intro (G.below h G.lt).two ((B1.alloc _).below h (B1.alloc _).lt)
  have hwz := hb1.size
  have hbb := hb1.trans (hbx.mono hwz)
  have hsz := B1.lt
  clear G hbx
  go_region
  go_wp2_with (go_at_call 107; refine (hir _).mono ?_; rintro e w2 ⟨rfl, hb2⟩; have hb2 : Below (w0.alloc (.cells #[.int .i64 N, .int .i64 D] 61)).heap.size (w0.alloc (.cells #[.int .i64 N, .int .i64 D] 61)) w2 := ⟨hb2.os, hb2.tape, hb2.output, hb2.size, hb2.block⟩; obtain ⟨⟨g0, g1, _, _⟩, B2⟩ := hF _ hb2; obtain ⟨r0, r1, rf0, rf1⟩ := B2.two)
  obtain ⟨d0, d1⟩ := set2 (x := .int .i64 N) (y := .int .i64 D) B2
  have b3 := ((bel_call hbb hb2).setCell (p := ⟨w.heap.size, 0, none⟩) (Nat.le_refl _) (.int .i64 N)).setCell (p := ⟨w.heap.size, 1, none⟩) (Nat.le_refl _) (.int .i64 D)
  generalize (w2.setCell ⟨w.heap.size, 0, none⟩ (.int .i64 N)).setCell ⟨w.heap.size, 1, none⟩ (.int .i64 D) = w3 at *
  refine bodyPost_ret (v := .tuple #[.agg #[.int .i64 N, .int .i64 D], .int .i64 0]) (by simp [results, Try.results172, go_sem, d0, d1]) rfl ?_
  exact ⟨rfl, b3⟩
theorem rt_close {w W : World} {g r : Nat} {x y : Value} (p n : Value) (hs : SRC W g) (hB : BK W r 61 #[x, y]) (hgr : g < r) (hr : w.heap.size ≤ r) (hu : Up g w.heap.size w W) :
    ((W.setCell ⟨r, 0, none⟩ p).setCell ⟨r, 1, none⟩ n).cell? ⟨r, 0, none⟩ = some p ∧ ((W.setCell ⟨r, 0, none⟩ p).setCell ⟨r, 1, none⟩ n).cell? ⟨r, 1, none⟩ = some n ∧
    SRC ((W.setCell ⟨r, 0, none⟩ p).setCell ⟨r, 1, none⟩ n) g ∧ Up g w.heap.size w ((W.setCell ⟨r, 0, none⟩ p).setCell ⟨r, 1, none⟩ n) := by
  have h5 := (hB.set 0 p).set 1 n
  have hb : Below r W ((W.setCell ⟨r, 0, none⟩ p).setCell ⟨r, 1, none⟩ n) := ((Below.refl _ _).setCell (p := ⟨r, 0, none⟩) (Nat.le_refl _) p).setCell (p := ⟨r, 1, none⟩) (Nat.le_refl _) _
  obtain ⟨d0, d1, _, _⟩ := BK.two (x := p) (y := n) (by simpa using h5)
  exact ⟨d0, d1, hs.below hb hgr, hu.trans (Up.of (hb.mono hr))⟩
set_option maxRecDepth 20000 in
set_option maxHeartbeats 2000000 in
theorem s_l05Valid (g : Nat) (w : World) (hs : SRC w g) : Calls Try.prog 149 #[.pointer (some ⟨g, 0, none⟩)] w (RD g (fun a b => -1000000000000 ≤ a ∧ a ≤ 1000000000000 ∧ 1 ≤ b ∧ b ≤ 1000) w) := by
  have hp1 := fun x y z W h => s_pick4 g x y 0 z W h
  have hp2 := fun x y W h => s_pick6 g 1 x y 8 9 25 W h
  have hgw := hs.lt
  have B0 := BK.new w 61 #[.int .i64 0, .int .i64 0]
  have hb0 := (Below.refl w.heap.size w).alloc (Nat.le_refl _) (.cells #[.int .i64 0, .int .i64 0] 61)
  have hs0 := hs.call hb0
  have u0 := Up.of (g := g) hb0
  have hz0 : (w.alloc (.cells #[.int .i64 0, .int .i64 0] 61)).heap.size = w.heap.size + 1 := World.size_alloc _ _
  go_enter Try.func149, Try.ntmps149
  go_wp2_with (fail)
  generalize w.alloc (.cells #[.int .i64 0, .int .i64 0] 61) = w0 at *
  have v0 : Up g w0.heap.size w0 w0 := Up.refl
  go_wp2_with (fail)
  refine (s_nextI g 41 (by omega) _ hs0).mono ?_
  rintro e w1 ⟨k1, rfl, hk1, hsw1, huw1⟩
  have uw1 := v0.call huw1
  go_wp2_with (fail)
  refine (s_nextI g 2001 (by omega) _ hsw1).mono ?_
  rintro e w2 ⟨k2, rfl, hk2, hsw2, huw2⟩
  have uw2 := uw1.call huw2
  go_wp2_with (fail)
  refine (s_nextI g 21 (by omega) _ hsw2).mono ?_
  rintro e w3 ⟨k3, rfl, hk3, hsw3, huw3⟩
  have uw3 := uw2.call huw3
  go_wp2_with (fail)
  refine (hp1 _ _ _ _ hsw3).mono ?_
  rintro e w4 ⟨x, rfl, hx, hs4, hu4⟩
  have v4 := uw3.call hu4
  have hx : -1000000000000 ≤ x ∧ x ≤ 1000000000000 := by simp at hx; omega
  clear hu4 uw3 uw2 uw1 huw1 huw2 huw3 hp1 hsw1 hsw2 hsw3 hs0 v0
  go_wp2_with (fail)
  refine (s_nextI g 20 (by omega) _ hs4).mono ?_
  rintro e w5 ⟨k5, rfl, hk5, hsw5, huw5⟩
  have uw5 := v4.call huw5
  go_wp2_with (fail)
  refine (s_nextI g 500 (by omega) _ hsw5).mono ?_
  rintro e w6 ⟨k6, rfl, hk6, hsw6, huw6⟩
  have uw6 := uw5.call huw6
  go_wp2_with (fail)
  refine (hp2 _ _ _ hsw6).mono ?_
  rintro e w7 ⟨y, rfl, hy, hs7, hu7⟩
  have v7 := uw6.call hu7
  have hy : 1 ≤ y ∧ y ≤ 1000 := by simp at hy; omega
  have hm := mk_rat hx.1 hx.2 hy.1 (by omega)
  have hmk := fun W => s_l05Make x y W hx.1 hx.2 hy.1 (by omega)
  obtain ⟨_, ⟨hD1, hD2⟩, ⟨hN1, hN2⟩, _, _, _⟩ := hm
  generalize mkN x y = N at *
  generalize mkD x y = D at *
  clear hu7 uw6 uw5 v4 huw5 huw6 hp2 hs4 hsw5 hsw6
  go_wp2_with (fail)
  refine (hmk _).mono ?_
  rintro e w8 ⟨rfl, hb8⟩
  have v8 := v7.thenB hb8
  have hs8 := hs7.call hb8
  have hb9 := (Below.refl w8.heap.size w8).alloc (Nat.le_refl _) (.cells #[.int .i64 N, .int .i64 D] 61)
  have v9 := v8.thenB hb9
  have hs9 := hs8.call hb9
  have G9 := BK.new w8 61 #[.int .i64 N, .int .i64 D]
  have B9 := bk_up B0 v9 (by omega) (by omega)
  have u9 := u0.call v9
  clear hmk hb8 hb9 v8 v7 hs7 hs8 v9 B0
  obtain ⟨g0, g1, _, _⟩ := G9.two
  obtain ⟨r0, r1, rf0, rf1⟩ := B9.two
  go_wp2_with (fail)
  obtain ⟨e0, e1, hsZ, uZ⟩ := rt_close (w := w) (.int .i64 N) (.int .i64 D) hs9 B9 hgw (Nat.le_refl _) u9
  generalize ((w8.alloc (.cells #[.int .i64 N, .int .i64 D] 61)).setCell ⟨w.heap.size, 0, none⟩ (.int .i64 N)).setCell ⟨w.heap.size, 1, none⟩ (.int .i64 D) = wZ at *
  refine bodyPost_ret (v := .agg #[.int .i64 N, .int .i64 D]) (by simp [results, Try.results149, go_sem, e0, e1]) rfl ?_
  exact ⟨N, D, rfl, ⟨by omega, by omega, by omega, by omega⟩, hsZ, uZ⟩
set_option maxRecDepth 20000 in
set_option maxHeartbeats 2000000 in
theorem s_l05Draw (g : Nat) (w : World) (hs : SRC w g) : Calls Try.prog 98 #[.pointer (some ⟨g, 0, none⟩)] w (RD g (fun _ _ => True) w) := by
  have hv := fun W h => s_l05Valid g W h
  have hp1 := fun W h => s_pick5 g 0 (-1) 1000001 1000000000000 1000000000001 W h
  have hp2 := fun x W h => s_pick4 g x 1000000000000 1000000000001 999999 W h
  have hgw := hs.lt
  have B0 := BK.new w 61 #[.int .i64 0, .int .i64 0]
  have hb0 := (Below.refl w.heap.size w).alloc (Nat.le_refl _) (.cells #[.int .i64 0, .int .i64 0] 61)
  have hs0 := hs.call hb0
  have u0 := Up.of (g := g) hb0
  have hz0 : (w.alloc (.cells #[.int .i64 0, .int .i64 0] 61)).heap.size = w.heap.size + 1 := World.size_alloc _ _
  go_enter Try.func98, Try.ntmps98
  go_wp2_with (fail)
  refine (hv _ hs0).mono ?_
  rintro e w1 ⟨p, n, rfl, ⟨hp1', hp2', hn1, hn2⟩, hs1, hu1⟩
  have u1 := u0.call hu1
  generalize w.alloc (.cells #[.int .i64 0, .int .i64 0] 61) = w0 at *
  have B1 := bk_up B0 hu1 (by omega) (by omega)
  have hz1 := hu1.size
  have hb1 := (Below.refl w1.heap.size w1).alloc (Nat.le_refl _) (.cells #[.int .i64 p, .int .i64 n] 61)
  have G1 := BK.new w1 61 #[.int .i64 p, .int .i64 n]
  have hs2 := hs1.call hb1
  have B2 := B1.below hb1 (by omega)
  have u2 := u1.thenB hb1
  have hz2 : (w1.alloc (.cells #[.int .i64 p, .int .i64 n] 61)).heap.size = w1.heap.size + 1 := World.size_alloc _ _
  clear hu1 u0 u1 B0 B1 hs0 hs1 hv hb1 hs
  go_wp2_with (fail)
  generalize w1.alloc (.cells #[.int .i64 p, .int .i64 n] 61) = w2 at *
  refine (s_nextI g 24 (by omega) _ hs2).mono ?_
  rintro e w3 ⟨k, rfl, hk, hs3, hu3⟩
  have hz3 := hu3.size
  have B3 := bk_up B2 hu3 (by omega) (by omega)
  have G3 := bk_up G1 hu3 (by omega) (by omega)
  have u3 := u2.call hu3
  obtain ⟨g0, g1, gf0, gf1⟩ := G3.two
  obtain ⟨r0, r1, rf0, rf1⟩ := B3.two
  clear B2 G1 u2 hs2 hu3
  have hk4 : k = 0 ∨ k = 1 ∨ 1 < k := by omega
  rcases hk4 with rfl | rfl | hk2
  · go_wp2_with (fail)
    refine (hp1 _ hs3).mono ?_
    rintro e w4 ⟨q, rfl, _, hs4, hu4⟩
    have u4 := u3.call hu4
    have hz4 := hu4.size
    have B4 := (bk_up B3 hu4 (by omega) (by omega))
    have G4 := (bk_up G3 hu4 (by omega) (by omega))
    obtain ⟨p0, p1, pf0, pf1⟩ := G4.two
    have G5 := G4.set 1 (.int .i64 q)
    have hb5 := (Below.refl w1.heap.size w4).setCell (p := ⟨w1.heap.size, 1, none⟩) (Nat.le_refl _) (.int .i64 q)
    have B5 := B4.below hb5 (by omega)
    have hs5 := hs4.below hb5 (by omega)
    have u5 := u4.trans (Up.of (hb5.mono (B' := w.heap.size) (by omega)))
    have G5 : BK (w4.setCell ⟨w1.heap.size, 1, none⟩ (.int .i64 q)) w1.heap.size 61 #[.int .i64 p, .int .i64 q] := by simpa using G5
    obtain ⟨s0, s1, _, _⟩ := G5.two
    obtain ⟨_, _, t0, t1⟩ := B5.two
    clear B3 G3 B4 G4 hs3 hs4 u3 u4 hu4 g0 g1 r0 r1
    go_wp2_with (fail)
    generalize hW : w4.setCell ⟨w1.heap.size, 1, none⟩ (.int .i64 q) = w5 at *
    go_wp2_with (fail)
    obtain ⟨e0, e1, hsZ, uZ⟩ := rt_close (w := w) (.int .i64 p) (.int .i64 q) hs5 B5 hgw (Nat.le_refl _) u5
    generalize (w5.setCell ⟨w.heap.size, 0, none⟩ (.int .i64 p)).setCell ⟨w.heap.size, 1, none⟩ (.int .i64 q) = wZ at *
    refine bodyPost_ret (v := .agg #[.int .i64 p, .int .i64 q]) (by simp [results, Try.results98, go_sem, e0, e1]) rfl ?_
    exact ⟨p, q, rfl, trivial, hsZ, uZ⟩
  · go_wp2_with (fail)
    refine (hp2 _ _ hs3).mono ?_
    rintro e w4 ⟨q, rfl, _, hs4, hu4⟩
    have u4 := u3.call hu4
    have hz4 := hu4.size
    have B4 := (bk_up B3 hu4 (by omega) (by omega))
    have G4 := (bk_up G3 hu4 (by omega) (by omega))
    obtain ⟨p0, p1, pf0, pf1⟩ := G4.two
    have G5 := G4.set 0 (.int .i64 q)
    have hb5 := (Below.refl w1.heap.size w4).setCell (p := ⟨w1.heap.size, 0, none⟩) (Nat.le_refl _) (.int .i64 q)
    have B5 := B4.below hb5 (by omega)
    have hs5 := hs4.below hb5 (by omega)
    have u5 := u4.trans (Up.of (hb5.mono (B' := w.heap.size) (by omega)))
    have G5 : BK (w4.setCell ⟨w1.heap.size, 0, none⟩ (.int .i64 q)) w1.heap.size 61 #[.int .i64 q, .int .i64 n] := by simpa using G5
    obtain ⟨s0, s1, _, _⟩ := G5.two
    obtain ⟨_, _, t0, t1⟩ := B5.two
    clear B3 G3 B4 G4 hs3 hs4 u3 u4 hu4 g0 g1 r0 r1
    go_wp2_with (fail)
    generalize hW : w4.setCell ⟨w1.heap.size, 0, none⟩ (.int .i64 q) = w5 at *
    go_wp2_with (fail)
    obtain ⟨e0, e1, hsZ, uZ⟩ := rt_close (w := w) (.int .i64 q) (.int .i64 n) hs5 B5 hgw (Nat.le_refl _) u5
    generalize (w5.setCell ⟨w.heap.size, 0, none⟩ (.int .i64 q)).setCell ⟨w.heap.size, 1, none⟩ (.int .i64 n) = wZ at *
    refine bodyPost_ret (v := .agg #[.int .i64 q, .int .i64 n]) (by simp [results, Try.results98, go_sem, e0, e1]) rfl ?_
    exact ⟨q, n, rfl, trivial, hsZ, uZ⟩
  · have t0 : ((k : Int) == 0) = false := by rw [beq_eq_false_iff_ne]; omega
    have t1 : ((k : Int) == 1) = false := by rw [beq_eq_false_iff_ne]; omega
    go_wp2_with (fail)
    obtain ⟨e0, e1, hsZ, uZ⟩ := rt_close (w := w) (.int .i64 p) (.int .i64 n) hs3 B3 hgw (Nat.le_refl _) u3
    generalize (w3.setCell ⟨w.heap.size, 0, none⟩ (.int .i64 p)).setCell ⟨w.heap.size, 1, none⟩ (.int .i64 n) = wZ at *
    refine bodyPost_ret (v := .agg #[.int .i64 p, .int .i64 n]) (by simp [results, Try.results98, go_sem, e0, e1]) rfl ?_
    exact ⟨p, n, rfl, trivial, hsZ, uZ⟩
end Go.Proofs.Ythjoegoeaiemdaa

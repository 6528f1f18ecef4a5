/- Fractions in lowest terms. -/
import Derived.Test.YtglijcdnnaekkaaGreatA30
import Derived.RegionTactic
namespace Go.Proofs.YtglijcdnnaekkaaGreat
set_option linter.unusedVariables false
set_option linter.unusedSimpArgs false
open Go.RowKit

/-- A fraction's numerator and denominator in lowest terms. -/
def mkN (n d : Int) : Int := n / (Int.gcd n d : Int)
def mkD (n d : Int) : Int := d / (Int.gcd n d : Int)
theorem mk_rat {n d : Int} (h1 : -1000000000000 ≤ n) (h2 : n ≤ 1000000000000) (h3 : 1 ≤ d) (h4 : d ≤ 1000000000000) :
    ratB (mkN n d) (mkD n d) = true ∧ (1 ≤ mkD n d ∧ mkD n d ≤ d) ∧ (-1000000000000 ≤ mkN n d ∧ mkN n d ≤ 1000000000000) ∧ 1 ≤ Int.gcd n d ∧ n.tdiv (Int.gcd n d : Int) = mkN n d ∧ (Int.gcd n d : Int) ≤ d := by
  have hg : 0 < Int.gcd n d := Int.gcd_pos_of_ne_zero_right n (by omega)
  have d1 : (Int.gcd n d : Int) ∣ n := Int.gcd_dvd_left ..
  have d2 : (Int.gcd n d : Int) ∣ d := Int.gcd_dvd_right ..
  have e1 : n.tdiv (Int.gcd n d : Int) = mkN n d := Int.tdiv_eq_ediv_of_dvd d1
  have hN : mkN n d * (Int.gcd n d : Int) = n := Int.ediv_mul_cancel d1
  have hD : mkD n d * (Int.gcd n d : Int) = d := Int.ediv_mul_cancel d2
  have hgl : (Int.gcd n d : Int) ≤ d := Int.le_of_dvd (by omega) d2
  have hgc : Int.gcd (mkN n d) (mkD n d) = 1 := by
    have h := Int.gcd_mul_right (mkN n d) (Int.gcd n d : Int) (mkD n d)
    rw [hN, hD, Int.natAbs_natCast] at h
    exact Nat.eq_of_mul_eq_mul_right hg (by rw [← h, Nat.one_mul])
  generalize mkN n d = N at *
  generalize mkD n d = D at *
  generalize Int.gcd n d = g at *
  have hD1 : 1 ≤ D := by
    by_cases h : 0 < D
    · omega
    · have := Int.mul_le_mul_of_nonneg_right (show D ≤ 0 by omega) (show (0 : Int) ≤ g by omega); omega
  have hDd : D ≤ d := by
    have := Int.mul_le_mul_of_nonneg_left (show (1 : Int) ≤ g by omega) (show 0 ≤ D by omega); omega
  have hNa : N.natAbs ≤ n.natAbs := by
    rw [← hN, Int.natAbs_mul, Int.natAbs_natCast]
    exact Nat.le_mul_of_pos_right _ hg
  refine ⟨?_, ⟨hD1, hDd⟩, by omega, by omega, e1, hgl⟩
  unfold ratB valB inB
  simp [hgc]
  omega
theorem s_IsRationalT (a b : Int) (w : World) (h : ratB a b = true) : Calls Tryz.prog 161 #[.agg #[.int .i64 a, .int .i64 b]] w (M (.bool true) w) := by rw [← h]; exact s_IsRational a b w
set_option maxHeartbeats 2000000 in
theorem s_l05Make (n d : Int) (w : World) (h1 : -1000000000000 ≤ n) (h2 : n ≤ 1000000000000) (h3 : 1 ≤ d) (h4 : d ≤ 1000000000000) :
    Calls Tryz.prog 100 #[.int .i64 n, .int .i64 d] w (MR (mkN n d) (mkD n d) 0 w) := by
  obtain ⟨hr, ⟨hD1, hD2⟩, ⟨hN1, hN2⟩, hg, ht, hgd⟩ := mk_rat h1 h2 h3 h4
  have hir := fun W => s_IsRationalT _ _ W hr
  have htd : d.tdiv (Int.gcd n d : Int) = mkD n d := Int.tdiv_eq_ediv_of_nonneg (by omega)
  have hed : d / (Int.gcd n d : Int) = mkD n d := rfl
  have hgc := fun W => s_l01Gcd n d W (by omega) (by omega) (by omega) (by omega)
  generalize mkN n d = N at *
  generalize mkD n d = D at *
  generalize Int.gcd n d = g at *
  clear hr
  have B0 := BK.new w 63 #[.int .i64 0, .int .i64 0]
  have hb0 := (Below.refl w.heap.size w).alloc (Nat.le_refl _) (.cells #[.int .i64 0, .int .i64 0] 63)
  go_enter Tryz.func100, Tryz.ntmps100
  go_wp2_with (go_at_call 160; refine (hgc _).mono ?_; rintro e w' ⟨rfl, nq, rfl⟩)
  have hb1 := below_drewN hb0 nq
  have B1 := B0.drewN nq
  generalize (w.alloc (.cells #[.int .i64 0, .int .i64 0] 63)).drewN nq = w0 at *
  clear B0 hb0 hgc
  have G := BK.new w0 63 #[.int .i64 N, .int .i64 D]
  have hbx := (Below.refl w0.heap.size w0).alloc (Nat.le_refl _) (.cells #[.int .i64 N, .int .i64 D] 63)
  have hF := fun W (h : Below (w0.alloc (.cells #[.int .i64 N, .int .i64 D] 63)).heap.size (w0.alloc (.cells #[.int .i64 N, .int .i64 D] 63)) W) => And.intro (G.below h G.lt).two ((B1.alloc _).below h (B1.alloc _).lt)
  have hwz := hb1.size
  have hbb := hb1.trans (hbx.mono hwz)
  have hsz := B1.lt
  clear G hbx
  go_region
  go_wp2_with (go_at_call 161; refine (hir _).mono ?_; rintro e w2 ⟨rfl, hb2⟩; have hb2 : Below (w0.alloc (.cells #[.int .i64 N, .int .i64 D] 63)).heap.size (w0.alloc (.cells #[.int .i64 N, .int .i64 D] 63)) w2 := ⟨hb2.os, hb2.tape, hb2.output, hb2.size, hb2.block⟩; obtain ⟨⟨g0, g1, _, _⟩, B2⟩ := hF _ hb2; obtain ⟨r0, r1, rf0, rf1⟩ := B2.two)
  obtain ⟨d0, d1⟩ := set2 (x := .int .i64 N) (y := .int .i64 D) B2
  have b3 := ((bel_call hbb hb2).setCell (p := ⟨w.heap.size, 0, none⟩) (Nat.le_refl _) (.int .i64 N)).setCell (p := ⟨w.heap.size, 1, none⟩) (Nat.le_refl _) (.int .i64 D)
  generalize (w2.setCell ⟨w.heap.size, 0, none⟩ (.int .i64 N)).setCell ⟨w.heap.size, 1, none⟩ (.int .i64 D) = w3 at *
  refine bodyPost_ret (v := .tuple #[.agg #[.int .i64 N, .int .i64 D], .int .i64 0]) (by simp [results, Tryz.results100, go_sem, d0, d1]) rfl ?_
  exact ⟨rfl, b3⟩
set_option maxHeartbeats 2000000 in
theorem i_reduced (n d : Int) (w : World) (h1 : -1000000000000 ≤ n) (h2 : n ≤ 1000000000000) (h3 : 1 ≤ d) (h4 : d ≤ 1000000000000) :
    Calls Tryz.prog 96 #[.int .i64 n, .int .i64 d] w (M (.agg #[.int .i64 (mkN n d), .int .i64 (mkD n d)]) w) := by
  obtain ⟨hr, ⟨hD1, hD2⟩, ⟨hN1, hN2⟩, hg, ht, hgd⟩ := mk_rat h1 h2 h3 h4
  have htd : d.tdiv (Int.gcd n d : Int) = mkD n d := Int.tdiv_eq_ediv_of_nonneg (by omega)
  have hed : d / (Int.gcd n d : Int) = mkD n d := rfl
  have hgc := fun W => i_gcd n d W (by omega) (by omega) (by omega) (by omega)
  generalize mkN n d = N at *
  generalize mkD n d = D at *
  generalize Int.gcd n d = g at *
  clear hr
  have B0 := BK.new w 63 #[.int .i64 0, .int .i64 0]
  have hb0 := (Below.refl w.heap.size w).alloc (Nat.le_refl _) (.cells #[.int .i64 0, .int .i64 0] 63)
  go_enter Tryz.func96, Tryz.ntmps96
  go_wp2_with (go_at_call 157; refine (hgc _).mono ?_; rintro e w' ⟨rfl, nq, rfl⟩)
  have hb1 := below_drewN hb0 nq
  have B1 := B0.drewN nq
  generalize (w.alloc (.cells #[.int .i64 0, .int .i64 0] 63)).drewN nq = w0 at *
  clear B0 hb0 hgc
  obtain ⟨r0, r1, rf0, rf1⟩ := B1.two
  obtain ⟨d0, d1⟩ := set2 (x := .int .i64 N) (y := .int .i64 D) B1
  have b3 := (hb1.setCell (p := ⟨w.heap.size, 0, none⟩) (Nat.le_refl _) (.int .i64 N)).setCell (p := ⟨w.heap.size, 1, none⟩) (Nat.le_refl _) (.int .i64 D)
  go_region
  go_wp2_with (fail)
  refine bodyPost_ret (v := .agg #[.int .i64 N, .int .i64 D]) (by simp [results, Tryz.results96, go_sem, d0, d1]) rfl ?_
  exact ⟨rfl, below_drewN b3 1⟩
end Go.Proofs.YtglijcdnnaekkaaGreat

/- Draws for FnAbsolutes. -/
import Derived.Test.YthjoegoeaiemdaaA232
import Derived.Deep.RegionHeld3
namespace Go.Proofs.Ythjoegoeaiemdaa
set_option linter.unusedVariables false
set_option linter.unusedSimpArgs false
open Go.RowKit

/-- One rational number out of a code. -/
def QD1 (w : World) (e : Ending) (w' : World) : Prop := ∃ a b : Int, e = .returned (.agg #[.int .i64 a, .int .i64 b]) ∧ Below w.heap.size w w'
/-- A rational number and a prime. -/
def QD2 (w : World) (e : Ending) (w' : World) : Prop := ∃ a b p : Int, e = .returned (.tuple #[.agg #[.int .i64 a, .int .i64 b], .int .i64 p]) ∧ (-3 ≤ p ∧ p ≤ 101) ∧ Below w.heap.size w w'
/-- Two rational numbers. -/
def QD3 (w : World) (e : Ending) (w' : World) : Prop := ∃ a b c d : Int, e = .returned (.tuple #[.agg #[.int .i64 a, .int .i64 b], .agg #[.int .i64 c, .int .i64 d]]) ∧ Below w.heap.size w w'
/-- Two rational numbers and a prime. -/
def QD4 (w : World) (e : Ending) (w' : World) : Prop := ∃ a b c d p : Int, e = .returned (.tuple #[.agg #[.int .i64 a, .int .i64 b], .agg #[.int .i64 c, .int .i64 d], .int .i64 p]) ∧ (-3 ≤ p ∧ p ≤ 101) ∧ Below w.heap.size w w'
set_option maxRecDepth 20000 in
set_option maxHeartbeats 2000000 in
theorem s_DrawProductOfAll (A : Option Addr) (n c : Nat) (w : World) (hn : n ≤ 4096) (hs : YB w w.heap.size A n) : Calls Try.prog 45 #[.slice A n c] w (QD1 w) := by
  have B0 := BK.new w 61 #[.int .i64 0, .int .i64 0]
  have hb0 := (Below.refl w.heap.size w).alloc (Nat.le_refl _) (.cells #[.int .i64 0, .int .i64 0] 61)
  have hz0 : w.heap.size < (w.alloc (.cells #[.int .i64 0, .int .i64 0] 61)).heap.size := by simp
  have hf := s_l01From A n c _ hn (hs.call hb0)
  have hd := fun g W h => s_l05Draw g W h
  clear hn hs
  go_enter Try.func45, Try.ntmps45
  go_wp2_with (fail)
  generalize w.alloc (.cells #[.int .i64 0, .int .i64 0] 61) = w0 at *
  refine hf.mono ?_
  rintro e w1 ⟨rfl, hs1, hb1⟩
  have B1 := B0.below hb1 (by omega)
  have b1 := bel_call hb0 hb1
  have hz1 := hb1.size
  clear hf
  go_wp2_with (fail)
  refine (hd _ _ hs1).mono ?_
  rintro e w2 ⟨a, b, rfl, _, hs2, hu2⟩
  have B2 := bk_up B1 hu2 (by omega) (by omega)
  have u2 := (Up.of (g := w0.heap.size) hb1).call hu2
  have b2 := bel_call hb0 (u2.below (Nat.le_refl _))
  obtain ⟨f0, f1, f2, f3⟩ := B2.two
  obtain ⟨d0, d1⟩ := set2 (x := .int .i64 a) (y := .int .i64 b) B2
  have b3 := (b2.setCell (p := ⟨w.heap.size, 0, none⟩) (Nat.le_refl _) (.int .i64 a)).setCell (p := ⟨w.heap.size, 1, none⟩) (Nat.le_refl _) (.int .i64 b)
  clear B0 B1 B2 u2 hu2 hs1 hs2 hd hb1 b1
  go_wp2_with (fail)
  refine bodyPost_ret (v := .agg #[.int .i64 a, .int .i64 b]) (by simp [results, Try.results45, go_sem, d0, d1]) rfl ?_
  exact ⟨a, b, rfl, b3⟩
theorem two_far {w : World} {r s : Nat} {u v x y : Value} (hrs : s ≠ r) (h : w.cell? ⟨s, 0, none⟩ = some u ∧ w.cell? ⟨s, 1, none⟩ = some v) :
    ((w.setCell ⟨r, 0, none⟩ x).setCell ⟨r, 1, none⟩ y).cell? ⟨s, 0, none⟩ = some u ∧ ((w.setCell ⟨r, 0, none⟩ x).setCell ⟨r, 1, none⟩ y).cell? ⟨s, 1, none⟩ = some v := by
  have ne0 : ∀ i j, (⟨r, j, none⟩ : Addr) ≠ ⟨s, i, none⟩ := fun i j e => by injection e with e; exact hrs e.symm
  exact ⟨by rw [World.cell?_setCell_other (h := ne0 0 1), World.cell?_setCell_other (h := ne0 0 0), h.1], by rw [World.cell?_setCell_other (h := ne0 1 1), World.cell?_setCell_other (h := ne0 1 0), h.2]⟩
theorem set4 {w : World} {r s : Nat} {t t' : TypeId} {x0 x1 y0 y1 : Value} (a b c d : Value) (hB : BK w r t #[x0, x1]) (hC : BK w s t' #[y0, y1]) (hrs : r ≠ s) :
    ((((w.setCell ⟨r, 0, none⟩ a).setCell ⟨r, 1, none⟩ b).setCell ⟨s, 0, none⟩ c).setCell ⟨s, 1, none⟩ d).cell? ⟨r, 0, none⟩ = some a ∧ ((((w.setCell ⟨r, 0, none⟩ a).setCell ⟨r, 1, none⟩ b).setCell ⟨s, 0, none⟩ c).setCell ⟨s, 1, none⟩ d).cell? ⟨r, 1, none⟩ = some b ∧
    ((((w.setCell ⟨r, 0, none⟩ a).setCell ⟨r, 1, none⟩ b).setCell ⟨s, 0, none⟩ c).setCell ⟨s, 1, none⟩ d).cell? ⟨s, 0, none⟩ = some c ∧ ((((w.setCell ⟨r, 0, none⟩ a).setCell ⟨r, 1, none⟩ b).setCell ⟨s, 0, none⟩ c).setCell ⟨s, 1, none⟩ d).cell? ⟨s, 1, none⟩ = some d := by
  obtain ⟨d0, d1⟩ := set2 (x := a) (y := b) hB
  have C' := (hC.far (p := ⟨r, 0, none⟩) (fun e => hrs e.symm) a).far (p := ⟨r, 1, none⟩) (fun e => hrs e.symm) b
  obtain ⟨e0, e1⟩ := set2 (x := c) (y := d) C'
  obtain ⟨f0, f1⟩ := two_far (x := c) (y := d) hrs ⟨d0, d1⟩
  exact ⟨f0, f1, e0, e1⟩
set_option maxRecDepth 20000 in
set_option maxHeartbeats 2000000 in
theorem s_DrawRationalValuation (A : Option Addr) (n c : Nat) (w : World) (hn : n ≤ 4096) (hs : YB w w.heap.size A n) : Calls Try.prog 108 #[.slice A n c] w (QD2 w) := by
  have B0 := BK.new w 61 #[.int .i64 0, .int .i64 0]
  have hb0 := (Below.refl w.heap.size w).alloc (Nat.le_refl _) (.cells #[.int .i64 0, .int .i64 0] 61)
  have hz0 : w.heap.size < (w.alloc (.cells #[.int .i64 0, .int .i64 0] 61)).heap.size := by simp
  have hf := s_l01From A n c _ hn (hs.call hb0)
  have hd := fun g W h => s_l05Draw g W h
  clear hn hs
  go_enter Try.func108, Try.ntmps108
  go_wp2_with (fail)
  generalize w.alloc (.cells #[.int .i64 0, .int .i64 0] 61) = w0 at *
  refine hf.mono ?_
  rintro e w1 ⟨rfl, hs1, hb1⟩
  have B1 := B0.below hb1 (by omega)
  have hz1 := hb1.size
  clear hf
  go_wp2_with (fail)
  refine (hd _ _ hs1).mono ?_
  rintro e w2 ⟨a, b, rfl, _, hs2, hu2⟩
  have B2 := bk_up B1 hu2 (by omega) (by omega)
  have u2 := (Up.of (g := w0.heap.size) hb1).call hu2
  have hz2 := u2.size
  have hl2 := hs2.lt
  have hb3 := (Below.refl w2.heap.size w2).alloc (Nat.le_refl _) (.cells #[.int .i64 a, .int .i64 b] 61)
  have G3 := BK.new w2 61 #[.int .i64 a, .int .i64 b]
  have B3 := B2.below hb3 (by omega)
  have hs3 := hs2.call hb3
  have u3 := u2.thenB hb3
  have hz3 : w2.heap.size < (w2.alloc (.cells #[.int .i64 a, .int .i64 b] 61)).heap.size := by simp
  clear B0 B1 B2 u2 hu2 hs1 hs2 hd hb1 hb3
  go_wp2_with (fail)
  generalize w2.alloc (.cells #[.int .i64 a, .int .i64 b] 61) = w3 at *
  have hS0 : w3.drew.cell? ⟨w2.heap.size, 0, none⟩ = some (.int .i64 a) ∧ w3.drew.cell? ⟨w2.heap.size, 1, none⟩ = some (.int .i64 b) := ⟨G3.two.1, G3.two.2.1⟩
  go_region_held3 (fun W => W.cell? ⟨w2.heap.size, 0, none⟩ = some (.int .i64 a) ∧ W.cell? ⟨w2.heap.size, 1, none⟩ = some (.int .i64 b)) ((first | exact hS6 | exact hS0 | exact hS6a _ _))
    (first
      | (go_at_call 92; refine (s_l01DrawPrime w0.heap.size w3.drew (hs3.drewN 1)).mono ?_; rintro e w6 ⟨p, rfl, ⟨hp1, hp2⟩, hs6, hu6⟩; have hu6 : Up w0.heap.size w3.heap.size w3 w6 := ⟨hu6.os, hu6.tape, hu6.output, hu6.size, hu6.block⟩; have G6 := bk_up G3 hu6 (by omega) (by omega); have B6 := bk_up B3 hu6 (by omega) (by omega); have hS6 := And.intro G6.two.1 G6.two.2.1; obtain ⟨f0, f1, f2, f3⟩ := B6.two; have hS6a := fun x y => two_far (x := x) (y := y) (show w2.heap.size ≠ w.heap.size by omega) hS6)
      | fail)
  have u6 := u3.call hu6
  have b6 := bel_call hb0 (u6.below (Nat.le_refl _))
  obtain ⟨d0, d1⟩ := set2 (x := .int .i64 a) (y := .int .i64 b) B6
  have b9 := (b6.setCell (p := ⟨w.heap.size, 0, none⟩) (Nat.le_refl _) (.int .i64 a)).setCell (p := ⟨w.heap.size, 1, none⟩) (Nat.le_refl _) (.int .i64 b)
  go_wp2_with (fail)
  refine bodyPost_ret (v := .tuple #[.agg #[.int .i64 a, .int .i64 b], .int .i64 p]) (by simp [results, Try.results108, go_sem, d0, d1]) rfl ?_
  exact ⟨a, b, p, rfl, ⟨hp1, hp2⟩, b9⟩
set_option maxHeartbeats 2000000 in
theorem s_DrawAbsoluteAt (A : Option Addr) (n c : Nat) (w : World) (hn : n ≤ 4096) (hs : YB w w.heap.size A n) : Calls Try.prog 52 #[.slice A n c] w (QD2 w) := by
  have B0 := BK.new w 61 #[.int .i64 0, .int .i64 0]
  have hb0 := (Below.refl w.heap.size w).alloc (Nat.le_refl _) (.cells #[.int .i64 0, .int .i64 0] 61)
  have hf := s_DrawRationalValuation A n c _ hn (hs.call hb0)
  have hlt := B0.lt
  clear hn hs
  go_enter Try.func52, Try.ntmps52
  go_wp2_with (fail)
  generalize w.alloc (.cells #[.int .i64 0, .int .i64 0] 61) = w0 at *
  refine hf.mono ?_
  rintro e w1 ⟨a, b, p, rfl, hp, hb1⟩
  have B1 := B0.below hb1 hlt
  have b1 := bel_call hb0 hb1
  obtain ⟨f0, f1, f2, f3⟩ := B1.two
  obtain ⟨d0, d1⟩ := set2 (x := .int .i64 a) (y := .int .i64 b) B1
  have b9 := (b1.setCell (p := ⟨w.heap.size, 0, none⟩) (Nat.le_refl _) (.int .i64 a)).setCell (p := ⟨w.heap.size, 1, none⟩) (Nat.le_refl _) (.int .i64 b)
  clear B0 hb0 hf hb1
  go_wp2_with (fail)
  refine bodyPost_ret (v := .tuple #[.agg #[.int .i64 a, .int .i64 b], .int .i64 p]) (by simp [results, Try.results52, go_sem, d0, d1]) rfl ?_
  exact ⟨a, b, p, rfl, hp, b9⟩
set_option maxRecDepth 20000 in
set_option maxHeartbeats 2000000 in
theorem s_l05DrawTwo (A : Option Addr) (n c : Nat) (w : World) (hn : n ≤ 4096) (hs : YB w w.heap.size A n) : Calls Try.prog 111 #[.slice A n c] w (QD3 w) := by
  obtain ⟨B0, C0⟩ := two_boxes w 61 61 #[.int .i64 0, .int .i64 0] #[.int .i64 0, .int .i64 0]
  have hb0 := two_alloc w (.cells #[.int .i64 0, .int .i64 0] 61) (.cells #[.int .i64 0, .int .i64 0] 61)
  have hf := s_l01From A n c _ hn (hs.call hb0)
  have hd := fun g W h => s_l05Draw g W h
  have hz0 := B0.lt
  have hz1 := C0.lt
  clear hn hs
  go_enter Try.func111, Try.ntmps111
  go_wp2_with (fail)
  generalize (w.alloc (.cells #[.int .i64 0, .int .i64 0] 61)).alloc (.cells #[.int .i64 0, .int .i64 0] 61) = w0 at *
  refine hf.mono ?_
  rintro e w1 ⟨rfl, hs1, hb1⟩
  have B1 := B0.below hb1 hz0
  have C1 := C0.below hb1 hz1
  have hz1 := hb1.size
  clear hf
  go_wp2_with (fail)
  refine (hd _ _ hs1).mono ?_
  rintro e w2 ⟨a, b, rfl, _, hs2, hu2⟩
  have B2 := bk_up B1 hu2 (by omega) (by omega)
  have C2 := bk_up C1 hu2 (by omega) (by omega)
  have u2 := (Up.of (g := w0.heap.size) hb1).call hu2
  have hz2 := u2.size
  have hl2 := hs2.lt
  have hb3 := (Below.refl w2.heap.size w2).alloc (Nat.le_refl _) (.cells #[.int .i64 a, .int .i64 b] 61)
  have G3 := BK.new w2 61 #[.int .i64 a, .int .i64 b]
  have B3 := B2.below hb3 (by omega)
  have C3 := C2.below hb3 (by omega)
  have hs3 := hs2.call hb3
  have u3 := u2.thenB hb3
  have hz3 : w2.heap.size < (w2.alloc (.cells #[.int .i64 a, .int .i64 b] 61)).heap.size := by simp
  clear B0 B1 B2 C0 C1 C2 u2 hu2 hs1 hs2 hb1 hb3
  go_wp2_with (fail)
  generalize w2.alloc (.cells #[.int .i64 a, .int .i64 b] 61) = w3 at *
  have hS0 : w3.drew.cell? ⟨w2.heap.size, 0, none⟩ = some (.int .i64 a) ∧ w3.drew.cell? ⟨w2.heap.size, 1, none⟩ = some (.int .i64 b) := ⟨G3.two.1, G3.two.2.1⟩
  go_region_held3 (fun W => W.cell? ⟨w2.heap.size, 0, none⟩ = some (.int .i64 a) ∧ W.cell? ⟨w2.heap.size, 1, none⟩ = some (.int .i64 b)) ((first | exact hS6 | exact hS0 | exact two_far (by omega) hS6 | exact two_far (by omega) (two_far (by omega) hS6)))
    (first
      | (go_at_call 98; refine (hd w0.heap.size w3.drew (hs3.drewN 1)).mono ?_; rintro e w6 ⟨c', d', rfl, _, hs6, hu6⟩; have hu6 : Up w0.heap.size w3.heap.size w3 w6 := ⟨hu6.os, hu6.tape, hu6.output, hu6.size, hu6.block⟩; have G6 := bk_up G3 hu6 (by omega) (by omega); have B6 := bk_up B3 hu6 (by omega) (by omega); have C6 := bk_up C3 hu6 (by omega) (by omega); have hS6 := And.intro G6.two.1 G6.two.2.1; obtain ⟨f0, f1, f2, f3⟩ := B6.two; obtain ⟨k0, k1, k2, k3⟩ := C6.two)
      | fail)
  have u6 := u3.call hu6
  have b6 := bel_call hb0 (u6.below (Nat.le_refl _))
  obtain ⟨d0, d1, d2, d3⟩ := set4 (.int .i64 a) (.int .i64 b) (.int .i64 c') (.int .i64 d') B6 C6 (by omega)
  have b9 := (((b6.setCell (p := ⟨w.heap.size, 0, none⟩) (Nat.le_refl _) (.int .i64 a)).setCell (p := ⟨w.heap.size, 1, none⟩) (Nat.le_refl _) (.int .i64 b)).setCell (p := ⟨w.heap.size + 1, 0, none⟩) (Nat.le_succ _) (.int .i64 c')).setCell (p := ⟨w.heap.size + 1, 1, none⟩) (Nat.le_succ _) (.int .i64 d')
  go_wp2_with (fail)
  refine bodyPost_ret (v := .tuple #[.agg #[.int .i64 a, .int .i64 b], .agg #[.int .i64 c', .int .i64 d']]) (by simp [results, Try.results111, go_sem, d0, d1, d2, d3]) rfl ?_
  exact ⟨a, b, c', d', rfl, b9⟩
set_option maxRecDepth 20000 in
set_option maxHeartbeats 2000000 in
theorem s_DrawClosenessAt (A : Option Addr) (n c : Nat) (w : World) (hn : n ≤ 4096) (hs : YB w w.heap.size A n) : Calls Try.prog 55 #[.slice A n c] w (QD4 w) := by
  obtain ⟨B0, C0⟩ := two_boxes w 61 61 #[.int .i64 0, .int .i64 0] #[.int .i64 0, .int .i64 0]
  have hb0 := two_alloc w (.cells #[.int .i64 0, .int .i64 0] 61) (.cells #[.int .i64 0, .int .i64 0] 61)
  have hs0 := hs.call hb0
  have hf := s_l01From A n c _ hn hs0
  have hd := fun W h => s_l05DrawTwo A n c W hn h
  have hz0 := B0.lt
  have hz1 := C0.lt
  clear hn hs
  go_enter Try.func55, Try.ntmps55
  go_wp2_with (fail)
  generalize (w.alloc (.cells #[.int .i64 0, .int .i64 0] 61)).alloc (.cells #[.int .i64 0, .int .i64 0] 61) = w0 at *
  refine hf.mono ?_
  rintro e w1 ⟨rfl, hs1, hb1⟩
  have B1 := B0.below hb1 hz0
  have C1 := C0.below hb1 hz1
  have u1 := Up.of (g := w0.heap.size) hb1
  have hz1 := hb1.size
  clear hf
  go_wp2_with (fail)
  refine (hd _ (hs0.call hb1)).mono ?_
  rintro e w2 ⟨a, b, c', d', rfl, hb2⟩
  have hs2 := hs1.call hb2
  have B2 := B1.below hb2 (by omega)
  have C2 := C1.below hb2 (by omega)
  have u2 := u1.thenB hb2
  have hl1 := hs1.lt
  have hz2 := hb2.size
  obtain ⟨D3, E3⟩ := two_boxes w2 61 61 #[.int .i64 a, .int .i64 b] #[.int .i64 c', .int .i64 d']
  have hb3 := two_alloc w2 (.cells #[.int .i64 a, .int .i64 b] 61) (.cells #[.int .i64 c', .int .i64 d'] 61)
  have hs3 := hs2.call hb3
  have B3 := B2.below hb3 (by omega)
  have C3 := C2.below hb3 (by omega)
  have u3 := u2.thenB hb3
  have hz3 := D3.lt
  have hz4 := E3.lt
  clear hs0 hs1 hs2 B0 B1 B2 C0 C1 C2 u1 u2 hb1 hb2 hb3 hd
  go_wp2_with (fail)
  generalize (w2.alloc (.cells #[.int .i64 a, .int .i64 b] 61)).alloc (.cells #[.int .i64 c', .int .i64 d'] 61) = w3 at *
  refine (s_nextI w0.heap.size 12 (by omega) _ hs3).mono ?_
  rintro e w4 ⟨k, rfl, hk, hs4, hu4⟩
  have u4 := u3.call hu4
  have B4 := bk_up B3 hu4 (by omega) (by omega)
  have C4 := bk_up C3 hu4 (by omega) (by omega)
  have D4 := bk_up D3 hu4 (by omega) (by omega)
  have E4 := bk_up E3 hu4 (by omega) (by omega)
  have hz5 := hu4.size
  clear hs3 B3 C3 D3 E3 u3 hu4 hk
  by_cases hk0 : k = 0
  · have hz : ((k : Int) == 0) = true := by rw [beq_iff_eq]; omega
    obtain ⟨g0, g1, _, _⟩ := D4.two
    obtain ⟨_, _, g2, g3⟩ := E4.two
    have hbs := ((Below.refl (w2.heap.size + 1) w4).setCell (p := ⟨w2.heap.size + 1, 0, none⟩) (Nat.le_refl _) (.int .i64 a)).setCell (p := ⟨w2.heap.size + 1, 1, none⟩) (Nat.le_refl _) (.int .i64 b)
    have BW := B4.below hbs (by omega)
    have CW := C4.below hbs (by omega)
    have DW := D4.below hbs (by omega)
    have EW : BK ((w4.setCell ⟨w2.heap.size + 1, 0, none⟩ (.int .i64 a)).setCell ⟨w2.heap.size + 1, 1, none⟩ (.int .i64 b)) (w2.heap.size + 1) 61 #[.int .i64 a, .int .i64 b] := by simpa using (E4.set 0 (.int .i64 a)).set 1 (.int .i64 b)
    have hsW := hs4.below hbs (by omega)
    have uW := u4.trans (Up.of (hbs.mono (B' := w0.heap.size) (by omega)))
    clear hk0 B4 C4 D4 E4 hs4 u4 hbs
    go_wp2_with (fail)
    generalize (w4.setCell ⟨w2.heap.size + 1, 0, none⟩ (.int .i64 a)).setCell ⟨w2.heap.size + 1, 1, none⟩ (.int .i64 b) = W at *
    clear g0 g1 g2 g3
    have hzW := uW.size
    have hlD := DW.lt
    have hlE := EW.lt
    have hS0 : (W.drew.cell? ⟨w2.heap.size, 0, none⟩ = some (.int .i64 a) ∧ W.drew.cell? ⟨w2.heap.size, 1, none⟩ = some (.int .i64 b)) ∧ (W.drew.cell? ⟨w2.heap.size + 1, 0, none⟩ = some (.int .i64 a) ∧ W.drew.cell? ⟨w2.heap.size + 1, 1, none⟩ = some (.int .i64 b)) := ⟨⟨DW.two.1, DW.two.2.1⟩, EW.two.1, EW.two.2.1⟩
    go_region_held3 (fun W' => (W'.cell? ⟨w2.heap.size, 0, none⟩ = some (.int .i64 a) ∧ W'.cell? ⟨w2.heap.size, 1, none⟩ = some (.int .i64 b)) ∧ (W'.cell? ⟨w2.heap.size + 1, 0, none⟩ = some (.int .i64 a) ∧ W'.cell? ⟨w2.heap.size + 1, 1, none⟩ = some (.int .i64 b))) ((first | exact hS6 | exact hS0 | exact ⟨two_far (by omega) hS6.1, two_far (by omega) hS6.2⟩ | exact ⟨two_far (by omega) (two_far (by omega) hS6.1), two_far (by omega) (two_far (by omega) hS6.2)⟩))
      (first
        | (go_at_call 92; refine (s_l01DrawPrime w0.heap.size W.drew (hsW.drewN 1)).mono ?_; rintro e w6 ⟨p, rfl, ⟨hp1, hp2⟩, hs6, hu6⟩; have hu6 : Up w0.heap.size W.heap.size W w6 := ⟨hu6.os, hu6.tape, hu6.output, hu6.size, hu6.block⟩; have D6 := bk_up DW hu6 (by omega) (by omega); have E6 := bk_up EW hu6 (by omega) (by omega); have B6 := bk_up BW hu6 (by omega) (by omega); have C6 := bk_up CW hu6 (by omega) (by omega); have hS6 := And.intro (And.intro D6.two.1 D6.two.2.1) (And.intro E6.two.1 E6.two.2.1); obtain ⟨f0, f1, f2, f3⟩ := B6.two; obtain ⟨k0, k1, k2, k3⟩ := C6.two)
        | fail)
    have u6 := uW.call hu6
    have b6 := bel_call hb0 (u6.below (Nat.le_refl _))
    obtain ⟨d0, d1, d2, d3⟩ := set4 (.int .i64 a) (.int .i64 b) (.int .i64 a) (.int .i64 b) B6 C6 (by omega)
    have b9 := (((b6.setCell (p := ⟨w.heap.size, 0, none⟩) (Nat.le_refl _) (.int .i64 a)).setCell (p := ⟨w.heap.size, 1, none⟩) (Nat.le_refl _) (.int .i64 b)).setCell (p := ⟨w.heap.size + 1, 0, none⟩) (Nat.le_succ _) (.int .i64 a)).setCell (p := ⟨w.heap.size + 1, 1, none⟩) (Nat.le_succ _) (.int .i64 b)
    go_wp2_with (fail)
    refine bodyPost_ret (v := .tuple #[.agg #[.int .i64 a, .int .i64 b], .agg #[.int .i64 a, .int .i64 b], .int .i64 p]) (by simp [results, Try.results55, go_sem, d0, d1, d2, d3]) rfl ?_
    exact ⟨a, b, a, b, p, rfl, ⟨hp1, hp2⟩, b9⟩
  · have hz : ((k : Int) == 0) = false := by rw [beq_eq_false_iff_ne]; omega
    obtain ⟨W, rfl⟩ : ∃ W, W = w4 := ⟨_, rfl⟩
    have BW := B4
    have CW := C4
    have DW := D4
    have EW := E4
    have hsW := hs4
    have uW := u4
    clear hk0 B4 C4 D4 E4 hs4 u4
    go_wp2_with (fail)
    have hzW := uW.size
    have hlD := DW.lt
    have hlE := EW.lt
    have hS0 : (W.drew.cell? ⟨w2.heap.size, 0, none⟩ = some (.int .i64 a) ∧ W.drew.cell? ⟨w2.heap.size, 1, none⟩ = some (.int .i64 b)) ∧ (W.drew.cell? ⟨w2.heap.size + 1, 0, none⟩ = some (.int .i64 c') ∧ W.drew.cell? ⟨w2.heap.size + 1, 1, none⟩ = some (.int .i64 d')) := ⟨⟨DW.two.1, DW.two.2.1⟩, EW.two.1, EW.two.2.1⟩
    go_region_held3 (fun W' => (W'.cell? ⟨w2.heap.size, 0, none⟩ = some (.int .i64 a) ∧ W'.cell? ⟨w2.heap.size, 1, none⟩ = some (.int .i64 b)) ∧ (W'.cell? ⟨w2.heap.size + 1, 0, none⟩ = some (.int .i64 c') ∧ W'.cell? ⟨w2.heap.size + 1, 1, none⟩ = some (.int .i64 d'))) ((first | exact hS6 | exact hS0 | exact ⟨two_far (by omega) hS6.1, two_far (by omega) hS6.2⟩ | exact ⟨two_far (by omega) (two_far (by omega) hS6.1), two_far (by omega) (two_far (by omega) hS6.2)⟩))
      (first
        | (go_at_call 92; refine (s_l01DrawPrime w0.heap.size W.drew (hsW.drewN 1)).mono ?_; rintro e w6 ⟨p, rfl, ⟨hp1, hp2⟩, hs6, hu6⟩; have hu6 : Up w0.heap.size W.heap.size W w6 := ⟨hu6.os, hu6.tape, hu6.output, hu6.size, hu6.block⟩; have D6 := bk_up DW hu6 (by omega) (by omega); have E6 := bk_up EW hu6 (by omega) (by omega); have B6 := bk_up BW hu6 (by omega) (by omega); have C6 := bk_up CW hu6 (by omega) (by omega); have hS6 := And.intro (And.intro D6.two.1 D6.two.2.1) (And.intro E6.two.1 E6.two.2.1); obtain ⟨f0, f1, f2, f3⟩ := B6.two; obtain ⟨k0, k1, k2, k3⟩ := C6.two)
        | fail)
    have u6 := uW.call hu6
    have b6 := bel_call hb0 (u6.below (Nat.le_refl _))
    obtain ⟨d0, d1, d2, d3⟩ := set4 (.int .i64 a) (.int .i64 b) (.int .i64 c') (.int .i64 d') B6 C6 (by omega)
    have b9 := (((b6.setCell (p := ⟨w.heap.size, 0, none⟩) (Nat.le_refl _) (.int .i64 a)).setCell (p := ⟨w.heap.size, 1, none⟩) (Nat.le_refl _) (.int .i64 b)).setCell (p := ⟨w.heap.size + 1, 0, none⟩) (Nat.le_succ _) (.int .i64 c')).setCell (p := ⟨w.heap.size + 1, 1, none⟩) (Nat.le_succ _) (.int .i64 d')
    go_wp2_with (fail)
    refine bodyPost_ret (v := .tuple #[.agg #[.int .i64 a, .int .i64 b], .agg #[.int .i64 c', .int .i64 d'], .int .i64 p]) (by simp [results, Try.results55, go_sem, d0, d1, d2, d3]) rfl ?_
    exact ⟨a, b, c', d', p, rfl, ⟨hp1, hp2⟩, b9⟩
end Go.Proofs.Ythjoegoeaiemdaa

/- Walk: the law of ClosenessAt. -/
import Derived.Test.YtlhkpepnklbnfaaA31
namespace Go.Proofs.Ytlhkpepnklbnfaa
set_option linter.unusedVariables false
set_option linter.unusedSimpArgs false
open Go.RowKit

theorem keepS {w0 w1 w2 : World} {g : Nat} {a b c d : Value} (hg : g + 1 < w0.heap.size)
    (h : Below w0.heap.size w0 w1 ∧ w1.cell? ⟨g, 0, none⟩ = some a ∧ w1.cell? ⟨g, 1, none⟩ = some b ∧ w1.cell? ⟨g + 1, 0, none⟩ = some c ∧ w1.cell? ⟨g + 1, 1, none⟩ = some d) (hb : Below w1.heap.size w1 w2) :
    Below w0.heap.size w0 w2 ∧ w2.cell? ⟨g, 0, none⟩ = some a ∧ w2.cell? ⟨g, 1, none⟩ = some b ∧ w2.cell? ⟨g + 1, 0, none⟩ = some c ∧ w2.cell? ⟨g + 1, 1, none⟩ = some d := by
  obtain ⟨h0, h1, h2, h3, h4⟩ := h
  have hs := h0.size
  refine ⟨h0.trans (hb.mono hs), ?_, ?_, ?_, ?_⟩
  · rw [hb.cell (by simp; omega)]; exact h1
  · rw [hb.cell (by simp; omega)]; exact h2
  · rw [hb.cell (by simp; omega)]; exact h3
  · rw [hb.cell (by simp; omega)]; exact h4
set_option maxHeartbeats 2000000 in
theorem law_ClosenessAt (a b c d p : Int) (w : World) (hp : -9223372036854775808 ≤ p ∧ p ≤ 9223372036854775807) :
    Calls Try.prog 3 #[.agg #[.int .i64 a, .int .i64 b], .agg #[.int .i64 c, .int .i64 d], .int .i64 p] w (M (.bool true) w) := by
  obtain ⟨hp0, _⟩ := hp
  generalize hv : clV a b c d p = V
  generalize hc : clC a b c d p = C
  have HV := Lib.hid hv
  have HC := Lib.hid hc
  clear hv hc
  go_enter Try.func3, Try.ntmps3
  go_wp2_with (fail)
  obtain ⟨B1, B2⟩ := two_boxes w 23 23 #[.int .i64 a, .int .i64 b] #[.int .i64 c, .int .i64 d]
  have hb0 := two_alloc w (.cells #[.int .i64 a, .int .i64 b] 23) (.cells #[.int .i64 c, .int .i64 d] 23)
  have hsz : w.heap.size + 1 < ((w.alloc (.cells #[.int .i64 a, .int .i64 b] 23)).alloc (.cells #[.int .i64 c, .int .i64 d] 23)).heap.size := by simp
  generalize ((w.alloc (.cells #[.int .i64 a, .int .i64 b] 23)).alloc (.cells #[.int .i64 c, .int .i64 d] 23)) = w0 at *
  obtain ⟨c1, c2, _, _⟩ := B1.two
  obtain ⟨d1, d2, _, _⟩ := B2.two
  have hst : Below w0.heap.size w0 w0.drew ∧ w0.drew.cell? ⟨w.heap.size, 0, none⟩ = some (.int .i64 a) ∧ w0.drew.cell? ⟨w.heap.size, 1, none⟩ = some (.int .i64 b) ∧ w0.drew.cell? ⟨w.heap.size + 1, 0, none⟩ = some (.int .i64 c) ∧ w0.drew.cell? ⟨w.heap.size + 1, 1, none⟩ = some (.int .i64 d) :=
    ⟨(Below.refl _ _).drew, c1, c2, d1, d2⟩
  clear c1 c2 d1 d2 B1 B2
  go_region_held3 (fun w' => Below w0.heap.size w0 w' ∧ w'.cell? ⟨w.heap.size, 0, none⟩ = some (.int .i64 a) ∧ w'.cell? ⟨w.heap.size, 1, none⟩ = some (.int .i64 b) ∧ w'.cell? ⟨w.heap.size + 1, 0, none⟩ = some (.int .i64 c) ∧ w'.cell? ⟨w.heap.size + 1, 1, none⟩ = some (.int .i64 d)) ((first | exact hst | (refine keepS hsz ?_ hb; assumption)))
    (first | (go_at_call 16; refine (l_toRational _ _ _).mono ?_; rintro e w5 ⟨rfl, hb⟩) | (go_at_call 15; refine (s_ClosenessAt _ _ _ _ _ _ hp0).mono ?_; rw [HV.out, HC.out]; rintro e w5 ⟨rfl, hb⟩))
  all_goals
    have hS : Below w0.heap.size w0 w5 ∧ w5.cell? ⟨w.heap.size, 0, none⟩ = some (.int .i64 a) ∧ w5.cell? ⟨w.heap.size, 1, none⟩ = some (.int .i64 b) ∧ w5.cell? ⟨w.heap.size + 1, 0, none⟩ = some (.int .i64 c) ∧ w5.cell? ⟨w.heap.size + 1, 1, none⟩ = some (.int .i64 d) := by assumption
    clear hst
    have hst : Below w0.heap.size w0 w5.drew ∧ w5.drew.cell? ⟨w.heap.size, 0, none⟩ = some (.int .i64 a) ∧ w5.drew.cell? ⟨w.heap.size, 1, none⟩ = some (.int .i64 b) ∧ w5.drew.cell? ⟨w.heap.size + 1, 0, none⟩ = some (.int .i64 c) ∧ w5.drew.cell? ⟨w.heap.size + 1, 1, none⟩ = some (.int .i64 d) :=
      ⟨hS.1.drew, hS.2⟩
    go_wp2_with (fail)
    go_region_held3 (fun w' => Below w0.heap.size w0 w' ∧ w'.cell? ⟨w.heap.size, 0, none⟩ = some (.int .i64 a) ∧ w'.cell? ⟨w.heap.size, 1, none⟩ = some (.int .i64 b) ∧ w'.cell? ⟨w.heap.size + 1, 0, none⟩ = some (.int .i64 c) ∧ w'.cell? ⟨w.heap.size + 1, 1, none⟩ = some (.int .i64 d)) ((first | exact hst | (refine keepS hsz ?_ hb; assumption)))
      (first | (go_at_call 16; refine (l_toRational _ _ _).mono ?_; rintro e w6 ⟨rfl, hb⟩) | (go_at_call 17; refine (i_ClosenessAt _ _ _ _ _ _ hp0).mono ?_; rw [HV.out, HC.out]; rintro e w6 ⟨rfl, hb⟩))
    all_goals
      have hS6 : Below w0.heap.size w0 w6 ∧ w6.cell? ⟨w.heap.size, 0, none⟩ = some (.int .i64 a) ∧ w6.cell? ⟨w.heap.size, 1, none⟩ = some (.int .i64 b) ∧ w6.cell? ⟨w.heap.size + 1, 0, none⟩ = some (.int .i64 c) ∧ w6.cell? ⟨w.heap.size + 1, 1, none⟩ = some (.int .i64 d) := by assumption
      have hfin := bel_call hb0 hS6.1
      clear hst hS hS6
      go_wp2_with (fail)
      go_ret
      exact ⟨rfl, hfin⟩
end Go.Proofs.Ytlhkpepnklbnfaa

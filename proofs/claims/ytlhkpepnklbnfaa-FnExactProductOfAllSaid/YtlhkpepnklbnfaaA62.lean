/- Walk: the law of ProductOfAll. -/
import Derived.Test.YtlhkpepnklbnfaaA59
namespace Go.Proofs.Ytlhkpepnklbnfaa
set_option linter.unusedVariables false
set_option linter.unusedSimpArgs false
open Go.RowKit

set_option maxHeartbeats 1000000 in
theorem law_ProductOfAll (a b : Int) (w : World) (_ : -9223372036854775808 ≤ a ∧ a ≤ 9223372036854775807) (_ : -9223372036854775808 ≤ b ∧ b ≤ 9223372036854775807) :
    Calls Try.prog 8 #[.agg #[.int .i64 a, .int .i64 b]] w (M (.bool true) w) := by
  go_enter Try.func8, Try.ntmps8
  go_wp2_with (fail)
  refine (l_toRational _ _ _).mono ?_
  rintro e w1 ⟨rfl, hb1⟩
  have hc0 := hb1.cell (p := ⟨w.heap.size, 0, none⟩) (by simp)
  have hc1 := hb1.cell (p := ⟨w.heap.size, 1, none⟩) (by simp)
  simp [go_sem] at hc0 hc1
  have b1 := bel_call ((Below.refl w.heap.size w).alloc (Nat.le_refl _) _) hb1
  have hs1 := hb1.size
  simp at hs1
  go_wp2_with (fail)
  refine (s_ProductOfAll _ _ _).mono ?_
  rintro e w2 ⟨rfl, hb2⟩
  have hd0 := (hb2.cell (p := ⟨w.heap.size, 0, none⟩) (by simp; omega)).trans hc0
  have hd1 := (hb2.cell (p := ⟨w.heap.size, 1, none⟩) (by simp; omega)).trans hc1
  have b2 := bel_call b1 hb2
  have hs2 := hb2.size
  have hl2 : w.heap.size < w2.heap.size := by omega
  clear hc0 hc1 hb1 hb2
  go_wp2_with (fail)
  refine (l_toRational _ _ _).mono ?_
  rintro e w3 ⟨rfl, hb3⟩
  have he0 := hb3.cell (p := ⟨w2.heap.size, 0, none⟩) (by simp)
  have he1 := hb3.cell (p := ⟨w2.heap.size, 1, none⟩) (by simp)
  simp [go_sem] at he0 he1
  have b3 := bel_call (b2.alloc b2.size _) hb3
  have hs3 := hb3.size
  simp at hs3
  clear hb3
  go_wp2_with (fail)
  refine (i_ProductOfAll _ _ _).mono ?_
  rintro e w4 ⟨rfl, hb4⟩
  have hf0 := (hb4.cell (p := ⟨w2.heap.size, 0, none⟩) (by simp; omega)).trans he0
  have hf1 := (hb4.cell (p := ⟨w2.heap.size, 1, none⟩) (by simp; omega)).trans he1
  have b4 := bel_call b3 hb4
  have hs4 := hb4.size
  have hl4 : w2.heap.size < w4.heap.size := by omega
  clear he0 he1 hb4
  go_wp2_with (fail)
  refine (l_eqRational _ _ _).mono ?_
  rintro e w5 ⟨rfl, hb5⟩
  have b5 := bel_call (b4.alloc b4.size _) hb5
  go_wp2_with (fail)
  go_ret
  exact ⟨rfl, b5⟩
end Go.Proofs.Ytlhkpepnklbnfaa

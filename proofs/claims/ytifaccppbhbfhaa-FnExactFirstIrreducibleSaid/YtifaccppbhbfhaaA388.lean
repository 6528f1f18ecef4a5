/- The walk of FirstIrreducible's law. -/
import Derived.Test.YtifaccppbhbfhaaA387
namespace Go.Proofs.Ytifaccppbhbfhaa
set_option linter.unusedVariables false
set_option linter.unusedSimpArgs false
open Go.RowKit

set_option maxHeartbeats 4000000 in
theorem law_FirstIrreducible (p n : Int) (w : World) (hp : -9223372036854775808 ≤ p ∧ p ≤ 9223372036854775807) (hn : -9223372036854775808 ≤ n ∧ n ≤ 9223372036854775807) :
    Calls Try.prog 6 #[.int .i64 p, .int .i64 n] w (M (.bool true) w) := by
  have hS := fun W => s_FirstIrreducible p n W hp.1
  have hI := fun W => i_FirstIrreducible p n W
  clear hp hn
  generalize fiB p n = lst at *
  generalize cntC p n = cd at *
  generalize hL : lst.length = L at *
  have HL := Lib.hid hL.symm
  clear hL
  go_enter Try.func6, Try.ntmps6
  go_wp2_with (fail)
  refine (hS _).mono ?_
  rintro e w2 ⟨hL9, A0, c0, rfl, o0, b2⟩
  rw [← HL.out] at o0 hL9 ⊢
  have hL0 : L ≤ 1048576 := by omega
  go_wp2_with (fail)
  refine (hI _).mono ?_
  rintro e w4 ⟨_, A1, c1, rfl, o1, hb4⟩
  rw [← HL.out] at o1 ⊢
  have b4 := bel_call b2 hb4
  have o04 := own_below o0 hb4
  go_wp2_with (fail)
  refine (l_eqInt64S _ _ L _ L _ lst _ _ _ HL.out HL.out (by omega) (own_isn o1 HL.out) (own_isn o04 HL.out)).mono ?_
  rintro e w5 ⟨rfl, q5, rfl⟩
  go_wp2_with (fail)
  have o1q : (w4.drewN q5).ownsRow w2.heap.size 2 1 (.slice A1 L c1) L (ints lst) := o1
  refine (l_mark1 A1 L c1 w2.heap.size lst _ HL.out hL0 o1q).mono ?_
  rintro e w10 ⟨rfl, m10, g10⟩
  have g10 := undrewG g10
  have o010 := kept_ge o0 o04 g10 (fun g hg => by have := (o1.lt g hg).1; omega)
  have b10 : Below w.heap.size w w10 := b4.grown g10 b4.size (fun g hg => by have := (o1.lt g hg).1; have := b2.size; omega)
  clear g10
  go_wp2_with (fail)
  refine (l_held1 A1 L c1 _ _ hL0 (own_isn m10 (by rw [marks_length]))).mono ?_
  rintro e w11 ⟨rfl, q11, rfl⟩
  go_wp2_with (fail)
  refine (hI _).mono ?_
  rintro e w13 ⟨_, A2, c2, rfl, o2, hb13⟩
  rw [← HL.out] at o2 ⊢
  have hb13 := undrew hb13
  have b13 := bel_call b10 hb13
  have o013 := own_below o010 hb13
  have m13 := own_below m10 hb13
  go_wp2_with (fail)
  refine (l_eqInt64S _ _ L _ L _ lst _ _ _ HL.out HL.out (by omega) (own_isn o2 HL.out) (own_isn o013 HL.out)).mono ?_
  rintro e w14 ⟨rfl, q14, rfl⟩
  go_wp2_with (fail)
  refine (l_held1 A1 L c1 _ _ hL0 ((own_isn m13 (by rw [marks_length])).drewN q14)).mono ?_
  rintro e w15 ⟨rfl, q15, rfl⟩
  go_wp2_with (fail)
  go_ret
  refine ⟨rfl, ?_⟩
  repeat (first | exact b13 | refine below_drewN ?_ _)
end Go.Proofs.Ytifaccppbhbfhaa

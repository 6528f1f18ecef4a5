/- Walk: the law of SupportOf. -/
import Derived.Test.YtlhkpepnklbnfaaA61
import Derived.Test.YtlhkpepnklbnfaaA19
namespace Go.Proofs.Ytlhkpepnklbnfaa
set_option linter.unusedVariables false
set_option linter.unusedSimpArgs false
open Go.RowKit

set_option maxHeartbeats 4000000 in
theorem law_SupportOf (a b : Int) (w : World) (_ : -9223372036854775808 ≤ a ∧ a ≤ 9223372036854775807) (_ : -9223372036854775808 ≤ b ∧ b ≤ 9223372036854775807) :
    Calls Try.prog 13 #[.agg #[.int .i64 a, .int .i64 b]] w (M (.bool true) w) := by
  have hL0 : (suL a b).length ≤ 1048576 := suL_len a b
  generalize hlst : suL a b = lst at *
  have HLST := Lib.hid hlst
  clear hlst
  generalize hcd : suC a b = cd at *
  have HCD := Lib.hid hcd
  clear hcd
  generalize hL : lst.length = L at hL0
  have HL := Lib.hid hL.symm
  clear hL
  go_enter Try.func13, Try.ntmps13
  go_wp2_with (fail)
  have hB := BK.new w 23 #[.int .i64 a, .int .i64 b]
  have hbw : Below w.heap.size w (w.alloc (.cells #[.int .i64 a, .int .i64 b] 23)) := (Below.refl _ _).alloc (Nat.le_refl _) _
  have hlt := hB.lt
  generalize w.alloc (.cells #[.int .i64 a, .int .i64 b] 23) = w0 at *
  refine (l_toRational _ _ _).mono ?_
  rintro e w1 ⟨rfl, b1⟩
  go_wp2_with (fail)
  refine (s_SupportOf _ _ _).mono ?_
  rw [HLST.out, HCD.out]
  rintro e w2 ⟨A0, c0, rfl, o0, hb2⟩
  rw [← HL.out] at o0 ⊢
  have b2 := bel_call b1 hb2
  obtain ⟨d0, d1, _, _⟩ := (hB.below b2 hlt).two
  go_wp2_with (fail)
  refine (l_toRational _ _ _).mono ?_
  rintro e w3 ⟨rfl, hb3⟩
  clear d0 d1
  have b3 := bel_call b2 hb3
  have o03 := own_below o0 hb3
  go_wp2_with (fail)
  refine (i_SupportOf _ _ _).mono ?_
  rw [HLST.out, HCD.out]
  rintro e w4 ⟨A1, c1, rfl, o1, hb4⟩
  rw [← HL.out] at o1 ⊢
  have b4 := bel_call b3 hb4
  have o04 := own_below o03 hb4
  go_wp2_with (fail)
  refine (l_eqInt64S _ _ L _ L _ lst _ _ _ HL.out HL.out (by omega) (own_isn o1 HL.out) (own_isn o04 HL.out)).mono ?_
  rintro e w5 ⟨rfl, q5, rfl⟩
  go_wp2_with (fail)
  have o14q : (w4.drewN q5).ownsRow w3.heap.size 2 1 (.slice A1 L c1) L (ints lst) := o1
  refine (l_mark1 A1 L c1 w3.heap.size lst _ HL.out hL0 o14q).mono ?_
  rintro e w10 ⟨rfl, m10, g10⟩
  have g10 := undrewG g10
  have o010 := kept_ge o0 o04 g10 (fun g hg => by have := (o1.lt g hg).1; have := hb3.size; omega)
  have b10 : Below w0.heap.size w0 w10 := b4.grown g10 b4.size (fun g hg => by have := (o1.lt g hg).1; have := b3.size; omega)
  clear g10
  go_wp2_with (fail)
  refine (l_held1 A1 L c1 _ _ hL0 (own_isn m10 (by rw [marks_length]))).mono ?_
  rintro e w11 ⟨rfl, q11, rfl⟩
  obtain ⟨d0, d1, _, _⟩ := ((hB.below b10 hlt).drewN q11).two
  go_wp2_with (fail)
  refine (l_toRational _ _ _).mono ?_
  rintro e w12 ⟨rfl, hb12⟩
  clear d0 d1
  have hb12 := undrew hb12
  have b12 := bel_call b10 hb12
  have o012 := own_below o010 hb12
  have m12 := own_below m10 hb12
  go_wp2_with (fail)
  refine (i_SupportOf _ _ _).mono ?_
  rw [HLST.out, HCD.out]
  rintro e w13 ⟨A2, c2, rfl, o2, hb13⟩
  rw [← HL.out] at o2 ⊢
  have b13 := bel_call b12 hb13
  have o013 := own_below o012 hb13
  have m13 := own_below m12 hb13
  go_wp2_with (fail)
  refine (l_eqInt64S _ _ L _ L _ lst _ _ _ HL.out HL.out (by omega) (own_isn o2 HL.out) (own_isn o013 HL.out)).mono ?_
  rintro e w14 ⟨rfl, q14, rfl⟩
  go_wp2_with (fail)
  refine (l_held1 A1 L c1 _ _ hL0 ((own_isn m13 (by rw [marks_length])).drewN q14)).mono ?_
  rintro e w15 ⟨rfl, q15, rfl⟩
  go_wp2_with (fail)
  go_ret
  refine ⟨rfl, bel_call hbw ?_⟩
  repeat (first | exact b13 | refine below_drewN ?_ _)
end Go.Proofs.Ytlhkpepnklbnfaa

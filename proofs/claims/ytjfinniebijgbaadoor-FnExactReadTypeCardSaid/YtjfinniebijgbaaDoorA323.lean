/- ReadType: the law. -/
import Derived.Test.YtjfinniebijgbaaDoorA322
namespace Go.Proofs.YtjfinniebijgbaaDoor
set_option linter.unusedVariables false
set_option linter.unusedSimpArgs false
open Go.RowKit
open Go.Lib hiding intOf

set_option maxHeartbeats 4000000 in
theorem law_ReadType (s : ByteArray) (w : World) (hv : VW w) :
    Calls Tryd.prog 5 #[.string s] w (M (.bool true) w) := by
  by_cases hbig : 1048576 < s.size
  · clear hv
    have hb' : (1048576 : Int) < (s.size : Int) := by omega
    go_enter Tryd.func5, Tryd.ntmps5
    go_wp2_with (fail)
    go_ret
    exact ⟨rfl, Below.refl _ _⟩
  have hl : s.size ≤ 1048576 := by omega
  have hb' : ¬ (1048576 : Int) < (s.size : Int) := by omega
  have h1 := s_ReadType s w hl
  have h2 := fun W h => i_ReadType s W hl h
  have hL6 := rtyL_len s.data.toList
  generalize rtyL s.data.toList = lst at *
  generalize rtyC s.data.toList = cd at *
  generalize hL : lst.length = L at hL6
  have HL := Lib.hid hL.symm
  have HV := Lib.hid hv
  unfold RS at h1 h2
  rw [← HL.out] at h1 h2
  clear hL hbig hv hl
  have hL0 : L ≤ 1048576 := by omega
  go_enter Tryd.func5, Tryd.ntmps5
  go_wp2_with (fail)
  refine h1.mono ?_
  rintro e w2 ⟨A0, c0, rfl, o0, hb2⟩
  go_wp2_with (fail)
  refine (h2 _ (HV.out.below hb2)).mono ?_
  rintro e w4 ⟨A1, c1, rfl, o1, hb4⟩
  have b4 := bel_call hb2 hb4
  have o04 := own_below o0 hb4
  go_wp2_with (fail)
  refine (l_eqInt64S _ _ L _ L _ lst _ _ _ HL.out HL.out (by omega) (own_isn o1 HL.out) (own_isn o04 HL.out)).mono ?_
  rintro e w9 ⟨rfl, q9, rfl⟩
  go_wp2_with (fail)
  have o18q : (w4.drewN q9).ownsRow w2.heap.size 2 1 (.slice A1 L c1) L (ints lst) := o1
  refine (l_mark1 A1 L c1 w2.heap.size lst _ HL.out hL0 o18q).mono ?_
  rintro e w10 ⟨rfl, m10, g10⟩
  have g10 := undrewG g10
  have o010 := kept_ge o0 o04 g10 (fun g hg => (o1.lt g hg).1)
  have b10 : Below w.heap.size w w10 := b4.grown g10 b4.size (fun g hg => by have := (o1.lt g hg).1; have := hb2.size; omega)
  clear g10
  go_wp2_with (fail)
  refine (l_held1 A1 L c1 _ _ hL0 (own_isn m10 (by rw [marks_length]))).mono ?_
  rintro e w11 ⟨rfl, q11, rfl⟩
  go_wp2_with (fail)
  refine (h2 _ ((HV.out.below b10).dr q11)).mono ?_
  rintro e w13 ⟨A2, c2, rfl, o2, hb13⟩
  have hb13 := undrew hb13
  have b13 := bel_call b10 hb13
  have o013 := own_below o010 hb13
  have m13 := own_below m10 hb13
  go_wp2_with (fail)
  refine (l_eqInt64S _ _ L _ L _ lst _ _ _ HL.out HL.out (by omega) (own_isn o2 HL.out) (own_isn o013 HL.out)).mono ?_
  rintro e w14 ⟨rfl, q14, rfl⟩
  go_wp2_with (fail)
  refine (l_held1 A1 L c1 _ _ hL0 ((own_isn m13 (by rw [marks_length])).drewN q14)).mono ?_
  rintro e w15 ⟨rfl, q15, rfl⟩
  go_wp2_with (fail)
  go_ret
  refine ⟨rfl, ?_⟩
  repeat (first | exact b13 | refine below_drewN ?_ _)
end Go.Proofs.YtjfinniebijgbaaDoor

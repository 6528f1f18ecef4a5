/- RationalRoots: the law. -/
import Derived.Test.YtglijcdnnaekkaaA299
import Derived.Test.YtglijcdnnaekkaaA300
namespace Go.Proofs.Ytglijcdnnaekkaa
set_option linter.unusedVariables false
set_option linter.unusedSimpArgs false
open Go.RowKit

set_option maxHeartbeats 4000000 in
theorem law_RationalRoots (A : Option Addr) (n c : Nat) (xs : List Int) (w : World) (hn : n = xs.length) (hc : n ≤ c) (hm : c ≤ maxLen) (hr : R64 xs) (hs : IS w w.heap.size A xs) :
    Calls Try.prog 3 #[.slice A n c] w (M (.bool true) w) := by
  unfold maxLen at hm
  have HN := Lib.hid hn
  clear hn hr
  by_cases hbig : 1048576 < n
  · go_enter Try.func3, Try.ntmps3
    go_wp2_with (fail)
    go_ret
    exact ⟨rfl, Below.refl _ _⟩
  have hl : n ≤ 1048576 := by omega
  clear hbig
  have hL0 : (rtL xs).length ≤ 4 := rtL_len xs
  generalize hlst : rtL xs = lst at *
  have HLST := Lib.hid hlst
  clear hlst
  generalize hcd : rtC xs = cd at *
  have HCD := Lib.hid hcd
  clear hcd
  generalize hL : lst.length = L at hL0
  have HL := Lib.hid hL.symm
  have HFL := Lib.hid (show (flQ lst).length = L * 2 by rw [flQ_len, hL])
  clear hL
  go_enter Try.func3, Try.ntmps3
  go_wp2_with (fail)
  refine (l_toInt64S A n c xs _ HN.out hl hs).mono ?_
  rintro e w1 ⟨g1, rfl, hN1, b1⟩
  go_wp2_with (fail)
  refine (s_RationalRoots _ _ _ xs _ HN.out hl (Nat.le_refl _) (by simp only [maxLen]; omega) hN1.is).mono ?_
  unfold QRS
  rw [HLST.out, HCD.out]
  rintro e w2 ⟨A0, c0, rfl, o0, hb2⟩
  rw [← HL.out] at o0 ⊢
  have b2 := bel_call b1 hb2
  go_wp2_with (fail)
  refine (l_toInt64S A n c xs _ HN.out hl (hs.call b2)).mono ?_
  rintro e w3 ⟨g3, rfl, hN3, hb3⟩
  have b3 := bel_call b2 hb3
  have o03 := own_below o0 hb3
  go_wp2_with (fail)
  refine (i_RationalRoots _ _ _ xs _ HN.out hl (Nat.le_refl _) (by simp only [maxLen]; omega) hN3.is).mono ?_
  unfold QRS
  rw [HLST.out, HCD.out]
  rintro e w4 ⟨A1, c1, rfl, o1, hb4⟩
  rw [← HL.out] at o1 ⊢
  have b4 := bel_call b3 hb4
  have o04 := own_below o03 hb4
  have x4 := hN3.below hb4 hN3.lt
  go_wp2_with (fail)
  refine (l_eqRationalS _ _ L _ _ _ _ lst _ HL.out (by omega) o1 o04).mono ?_
  rintro e w5 ⟨rfl, hb5⟩
  have b5 := bel_call b4 hb5
  have o05 := own_below o04 hb5
  have o15 := own_below o1 hb5
  have x5 := x4.below hb5 x4.lt
  go_wp2_with (fail)
  refine (l_toInt64S A n c xs _ HN.out hl (hs.call b5)).mono ?_
  rintro e w6 ⟨g6, rfl, hN6, hb6⟩
  have b6 := bel_call b5 hb6
  have x6 := x5.below hb6 x5.lt
  have o06 := own_below o05 hb6
  have o16 := own_below o15 hb6
  go_wp2_with (fail)
  refine (l_eqInt64S _ _ n _ n _ xs _ _ _ HN.out HN.out (by omega) x6.is hN6.is).mono ?_
  rintro e w7 ⟨rfl, q7, rfl⟩
  go_wp2_with (fail)
  refine (l_mark1 _ n n w2.heap.size xs _ HN.out hl ((x6.drewN q7).own' HN.out hl)).mono ?_
  rintro e w8 ⟨rfl, m8, g8⟩
  have g8 := undrewG g8
  have hg3 : w2.heap.size ≤ g3 ∧ g3 < w3.heap.size := ⟨hN3.1, hN3.lt⟩
  have o08 := kept_ge o0 o06 g8 (fun g hg => by simp [Value.ownBlock] at hg; omega)
  have o18 := kept_lt o16 g8 (fun g hg => by simp [Value.ownBlock] at hg; omega)
  have b8 : Below w.heap.size w w8 := b6.grown g8 b6.size (fun g hg => by simp [Value.ownBlock] at hg; have := b2.size; omega)
  clear g8 m8 x6 x5 x4 hN6 hN1
  go_wp2_with (fail)
  refine (l_eqRationalS _ _ L _ _ _ _ lst _ HL.out (by omega) o18 o08).mono ?_
  rintro e w9 ⟨rfl, hb9⟩
  have b9 := bel_call b8 hb9
  have o09 := own_below o08 hb9
  have o19 := own_below o18 hb9
  have o19x := o19
  rw [rC_fl] at o19x
  go_wp2_with (fail)
  refine (l_markRationalS A1 L c1 1 w3.heap.size _ _ HFL.out (by omega) (by omega) o19x).mono ?_
  rintro e w10 ⟨rfl, m10, g10⟩
  have o010 := kept_ge o0 o09 g10 (fun g hg => by have := (o19.lt g hg).1; have := hb3.size; omega)
  have b10 : Below w.heap.size w w10 := b9.grown g10 b9.size (fun g hg => by have := (o19.lt g hg).1; have := b3.size; omega)
  clear g10
  go_wp2_with (fail)
  refine (l_heldRationalS A1 L c1 1 _ _ (by omega) (by omega) m10).mono ?_
  rintro e w11 ⟨rfl, q11, rfl⟩
  go_wp2_with (fail)
  refine (l_toInt64S A n c xs _ HN.out hl ((hs.call b10).drewN q11)).mono ?_
  rintro e w12 ⟨g12, rfl, hN12, hb12⟩
  have hb12 := undrew hb12
  have b12 := bel_call b10 hb12
  have o012 := own_below o010 hb12
  have m12 := own_below m10 hb12
  go_wp2_with (fail)
  refine (i_RationalRoots _ _ _ xs _ HN.out hl (Nat.le_refl _) (by simp only [maxLen]; omega) hN12.is).mono ?_
  unfold QRS
  rw [HLST.out, HCD.out]
  rintro e w13 ⟨A2, c2, rfl, o2, hb13⟩
  rw [← HL.out] at o2 ⊢
  have b13 := bel_call b12 hb13
  have o013 := own_below o012 hb13
  have m13 := own_below m12 hb13
  go_wp2_with (fail)
  refine (l_eqRationalS _ _ L _ _ _ _ lst _ HL.out (by omega) o2 o013).mono ?_
  rintro e w14 ⟨rfl, hb14⟩
  have b14 := bel_call b13 hb14
  have m14 := own_below m13 hb14
  go_wp2_with (fail)
  refine (l_heldRationalS A1 L c1 1 _ _ (by omega) (by omega) m14).mono ?_
  rintro e w15 ⟨rfl, q15, rfl⟩
  go_wp2_with (fail)
  go_ret
  refine ⟨rfl, ?_⟩
  repeat (first | exact b14 | refine below_drewN ?_ _)
end Go.Proofs.Ytglijcdnnaekkaa

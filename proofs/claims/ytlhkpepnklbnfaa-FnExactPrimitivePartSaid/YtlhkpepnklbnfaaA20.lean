/- Contracts and walks: CubicResolvent, ResolventRoots. -/
import Derived.Test.YtlhkpepnklbnfaaA19
namespace Go.Proofs.Ytlhkpepnklbnfaa
set_option linter.unusedVariables false
set_option linter.unusedSimpArgs false
open Go.RowKit

def cubE (xs : List Int) : List Int := [-(gt xs 3 * gt xs 3 * gt xs 0 - 4 * gt xs 2 * gt xs 0 + gt xs 1 * gt xs 1), gt xs 3 * gt xs 1 - 4 * gt xs 0, -gt xs 2, 1]
/-- A slice of the call's own. -/
def RV (l : List Int) (w : World) (e : Ending) (w' : World) : Prop :=
  ∃ A cap, e = .returned (.slice A l.length cap) ∧ w'.ownsRow w.heap.size 2 1 (.slice A l.length cap) l.length (ints l) ∧ Below w.heap.size w w'
theorem RV.lit {w : World} (l : List Int) (hm : l.length ≤ maxLen) : RV l w (.returned (.slice (some ⟨w.heap.size, 0, none⟩) l.length l.length)) (w.alloc (.cells (ints l).toArray 2)) := by
  refine ⟨_, _, rfl, ?_, (Below.refl _ _).alloc (Nat.le_refl _) _⟩
  have h := World.ownsRow_lit (base := w.heap.size) (size := 1) (e := 2) w (ints l).toArray l.length (Nat.le_refl _) hm (by simp [ints])
  simpa using h
theorem RV.drewN {w w' : World} {l : List Int} {e : Ending} (h : RV l w e w') (n : Nat) : RV l w e (w'.drewN n) := by
  obtain ⟨A, cap, h1, h2, h3⟩ := h
  exact ⟨A, cap, h1, h2, below_drewN h3 n⟩
set_option maxHeartbeats 1000000 in
theorem s_l27Cubic (A : Option Addr) (c : Nat) (xs : List Int) (w : World) (B : Nat) (hn : 5 = xs.length) (hs : IS w B A xs) (hall : ∀ k, k < xs.length → -20 ≤ gt xs k ∧ gt xs k ≤ 20) :
    Calls Try.prog 62 #[.slice A 5 c] w (RV (cubE xs) w) := by
  obtain ⟨b, off, rfl, _, hc⟩ := hs.at (k := 0) (by omega)
  have k0 := hc 0 (by omega)
  have k1 := hc 1 (by omega)
  have k2 := hc 2 (by omega)
  have k3 := hc 3 (by omega)
  rw [Nat.add_zero] at k0
  obtain ⟨d0, d1⟩ := hall 0 (by omega)
  obtain ⟨c0, c1⟩ := hall 1 (by omega)
  obtain ⟨b0, b1⟩ := hall 2 (by omega)
  obtain ⟨a0, a1⟩ := hall 3 (by omega)
  have HC : Hid (cubE xs = [-(gt xs 3 * gt xs 3 * gt xs 0 - 4 * gt xs 2 * gt xs 0 + gt xs 1 * gt xs 1), gt xs 3 * gt xs 1 - 4 * gt xs 0, -gt xs 2, 1]) := rfl
  clear hc hall hn
  have m1 := mul_bd (x := gt xs 3) (y := gt xs 3) (a := 20) (b := 20) (by omega) (by omega)
  have m2 := mul_bd (x := gt xs 3 * gt xs 3) (y := gt xs 0) (a := 400) (b := 20) (by omega) (by omega)
  have m3 := mul_bd (x := 4 * gt xs 2) (y := gt xs 0) (a := 80) (b := 20) (by omega) (by omega)
  have m4 := mul_bd (x := gt xs 1) (y := gt xs 1) (a := 20) (b := 20) (by omega) (by omega)
  have m5 := mul_bd (x := gt xs 3) (y := gt xs 1) (a := 20) (b := 20) (by omega) (by omega)
  go_enter Try.func62, Try.ntmps62
  go_wp2_with (first | go_quiet (fail))
  rw [HC.out]
  go_ret
  exact RV.drewN (RV.lit [-(gt xs 3 * gt xs 3 * gt xs 0 - 4 * gt xs 2 * gt xs 0 + gt xs 1 * gt xs 1), gt xs 3 * gt xs 1 - 4 * gt xs 0, -gt xs 2, 1] (by simp [maxLen])) _
set_option maxHeartbeats 1000000 in
theorem i_cubicResolvent (A : Option Addr) (c : Nat) (xs : List Int) (w : World) (B : Nat) (hn : 5 = xs.length) (hs : IS w B A xs) (hall : ∀ k, k < xs.length → -20 ≤ gt xs k ∧ gt xs k ≤ 20) :
    Calls Try.prog 63 #[.slice A 5 c] w (RV (cubE xs) w) := by
  obtain ⟨b, off, rfl, _, hc⟩ := hs.at (k := 0) (by omega)
  have k0 := hc 0 (by omega)
  have k1 := hc 1 (by omega)
  have k2 := hc 2 (by omega)
  have k3 := hc 3 (by omega)
  rw [Nat.add_zero] at k0
  obtain ⟨d0, d1⟩ := hall 0 (by omega)
  obtain ⟨c0, c1⟩ := hall 1 (by omega)
  obtain ⟨b0, b1⟩ := hall 2 (by omega)
  obtain ⟨a0, a1⟩ := hall 3 (by omega)
  have HC : Hid (cubE xs = [-(gt xs 3 * gt xs 3 * gt xs 0 - 4 * gt xs 2 * gt xs 0 + gt xs 1 * gt xs 1), gt xs 3 * gt xs 1 - 4 * gt xs 0, -gt xs 2, 1]) := rfl
  clear hc hall hn
  have m1 := mul_bd (x := gt xs 3) (y := gt xs 3) (a := 20) (b := 20) (by omega) (by omega)
  have m2 := mul_bd (x := gt xs 3 * gt xs 3) (y := gt xs 0) (a := 400) (b := 20) (by omega) (by omega)
  have m3 := mul_bd (x := 4 * gt xs 2) (y := gt xs 0) (a := 80) (b := 20) (by omega) (by omega)
  have m4 := mul_bd (x := gt xs 1) (y := gt xs 1) (a := 20) (b := 20) (by omega) (by omega)
  have m5 := mul_bd (x := gt xs 3) (y := gt xs 1) (a := 20) (b := 20) (by omega) (by omega)
  go_enter Try.func63, Try.ntmps63
  go_wp2_with (first | go_quiet (fail))
  rw [HC.out]
  go_ret
  exact RV.drewN (RV.lit [-(gt xs 3 * gt xs 3 * gt xs 0 - 4 * gt xs 2 * gt xs 0 + gt xs 1 * gt xs 1), gt xs 3 * gt xs 1 - 4 * gt xs 0, -gt xs 2, 1] (by simp [maxLen])) _
noncomputable def cubL (xs : List Int) : List Int := if codeM xs 4 4 = 0 then cubE xs else []
theorem cubL_len (xs : List Int) : (cubL xs).length ≤ 1048576 := by unfold cubL cubE; split <;> simp
set_option maxHeartbeats 1000000 in
theorem s_CubicResolvent (A : Option Addr) (n c : Nat) (xs : List Int) (w : World) (B : Nat) (hn : n = xs.length) (hl : n ≤ 1048576) (hs : IS w B A xs) :
    Calls Try.prog 24 #[.slice A n c] w (RS (cubL xs) (codeM xs 4 4) w) := by
  have HN := Lib.hid hn
  clear hn
  by_cases h0 : codeM xs 4 4 = 0
  · have HX : Hid (cubL xs = cubE xs) := by unfold Hid cubL; rw [if_pos h0]
    obtain ⟨_, hm, hlo, hhi⟩ := codeM_0 h0
    have HALL := Lib.hid (modB_all hm)
    rw [← HN.out] at hlo hhi
    obtain rfl : n = 5 := by omega
    have H0 := Lib.hid h0
    clear hm hlo hhi h0
    go_enter Try.func24, Try.ntmps24
    go_wp2_with (first | (go_at_call 60; refine (s_l27Code _ _ _ xs _ _ _ B HN.out hl hs).mono ?_; rintro e w' ⟨rfl, nq, rfl⟩; rw [H0.out]) | (go_at_call 62; refine (s_l27Cubic _ _ xs _ B HN.out (hs.drewN _) HALL.out).mono ?_; rintro e w1 ⟨A1, c1, rfl, o1, hb1⟩))
    rw [HX.out, H0.out]
    go_ret2
    exact ⟨A1, c1, rfl, own_mono o1 (Nat.le_refl _), bel_call (below_drewN (Below.refl _ _) _) hb1⟩
  · have HX : Hid (cubL xs = []) := by unfold Hid cubL; rw [if_neg h0]
    have h0' : (codeM xs 4 4 != 0) = true := by simpa using h0
    clear h0
    go_enter Try.func24, Try.ntmps24
    go_wp2_with (first | (go_at_call 60; refine (s_l27Code _ _ _ xs _ _ _ B HN.out hl hs).mono ?_; rintro e w' ⟨rfl, nq, rfl⟩))
    rw [HX.out]
    go_ret2
    exact RS.nil (below_drewN (Below.refl _ _) _)
set_option maxHeartbeats 1000000 in
theorem i_CubicResolvent (A : Option Addr) (n c : Nat) (xs : List Int) (w : World) (B : Nat) (hn : n = xs.length) (hl : n ≤ 1048576) (hs : IS w B A xs) :
    Calls Try.prog 25 #[.slice A n c] w (RS (cubL xs) (codeM xs 4 4) w) := by
  have HN := Lib.hid hn
  clear hn
  by_cases h0 : codeM xs 4 4 = 0
  · have HX : Hid (cubL xs = cubE xs) := by unfold Hid cubL; rw [if_pos h0]
    obtain ⟨_, hm, hlo, hhi⟩ := codeM_0 h0
    have HALL := Lib.hid (modB_all hm)
    rw [← HN.out] at hlo hhi
    obtain rfl : n = 5 := by omega
    have H0 := Lib.hid h0
    clear hm hlo hhi h0
    go_enter Try.func25, Try.ntmps25
    go_wp2_with (first | (go_at_call 61; refine (i_moderate _ _ _ xs _ _ _ B HN.out hl hs).mono ?_; rintro e w' ⟨rfl, nq, rfl⟩; rw [H0.out]) | (go_at_call 63; refine (i_cubicResolvent _ _ xs _ B HN.out (hs.drewN _) HALL.out).mono ?_; rintro e w1 ⟨A1, c1, rfl, o1, hb1⟩))
    rw [HX.out, H0.out]
    go_ret2
    exact ⟨A1, c1, rfl, own_mono o1 (Nat.le_refl _), bel_call (below_drewN (Below.refl _ _) _) hb1⟩
  · have HX : Hid (cubL xs = []) := by unfold Hid cubL; rw [if_neg h0]
    have h0' : (codeM xs 4 4 != 0) = true := by simpa using h0
    clear h0
    go_enter Try.func25, Try.ntmps25
    go_wp2_with (first | (go_at_call 61; refine (i_moderate _ _ _ xs _ _ _ B HN.out hl hs).mono ?_; rintro e w' ⟨rfl, nq, rfl⟩))
    rw [HX.out]
    go_ret2
    exact RS.nil (below_drewN (Below.refl _ _) _)
set_option maxHeartbeats 4000000 in
theorem law_CubicResolvent (A : Option Addr) (n c : Nat) (xs : List Int) (w : World) (hn : n = xs.length) (hc : n ≤ c) (hm : c ≤ maxLen) (hr : R64 xs) (hs : IS w w.heap.size A xs) :
    Calls Try.prog 5 #[.slice A n c] w (M (.bool true) w) := by
  unfold maxLen at hm
  have HN := Lib.hid hn
  clear hn hr
  by_cases hbig : 1048576 < n
  · go_enter Try.func5, Try.ntmps5
    go_wp2_with (fail)
    go_ret
    exact ⟨rfl, Below.refl _ _⟩
  have hl : n ≤ 1048576 := by omega
  clear hbig
  have hL0 : (cubL xs).length ≤ 1048576 := cubL_len xs
  generalize hlst : cubL xs = lst at *
  have HLST := Lib.hid hlst
  clear hlst
  generalize hcd : codeM xs 4 4 = cd at *
  have HCD := Lib.hid hcd
  clear hcd
  generalize hL : lst.length = L at hL0
  have HL := Lib.hid hL.symm
  clear hL
  go_enter Try.func5, Try.ntmps5
  go_wp2_with (fail)
  refine (l_toInt64S A n c xs _ HN.out hl hs).mono ?_
  rintro e w1 ⟨g1, rfl, hN1, b1⟩
  go_wp2_with (fail)
  refine (s_CubicResolvent _ _ _ xs _ w1.heap.size HN.out hl hN1.is).mono ?_
  rw [HLST.out, HCD.out]
  rintro e w2 ⟨A0, c0, rfl, o0, hb2⟩
  rw [← HL.out] at o0 ⊢
  have b2 := bel_call b1 hb2
  go_wp2_with (fail)
  refine (l_toInt64S A n c xs _ HN.out hl (hs.call b2)).mono ?_
  rintro e w3 ⟨g3, rfl, hN3, hb3⟩
  have b3 := bel_call b2 hb3
  have o03 := own_below o0 hb3
  go_wp2_with (fail)
  refine (i_CubicResolvent _ _ _ xs _ w3.heap.size HN.out hl hN3.is).mono ?_
  rw [HLST.out, HCD.out]
  rintro e w4 ⟨A1, c1, rfl, o1, hb4⟩
  rw [← HL.out] at o1 ⊢
  have b4 := bel_call b3 hb4
  have o04 := own_below o03 hb4
  have x4 := hN3.below hb4 hN3.lt
  go_wp2_with (fail)
  refine (l_eqInt64S _ _ L _ L _ lst _ _ _ HL.out HL.out (by omega) (own_isn o1 HL.out) (own_isn o04 HL.out)).mono ?_
  rintro e w5 ⟨rfl, q5, rfl⟩
  go_wp2_with (fail)
  refine (l_toInt64S A n c xs _ HN.out hl ((hs.call b4).drewN q5)).mono ?_
  rintro e w6 ⟨g6, rfl, hN6, hb6⟩
  have hb6 := undrew hb6
  have b6 := bel_call b4 hb6
  have x6 := x4.below hb6 x4.lt
  have o06 := own_below o04 hb6
  have o16 := own_below o1 hb6
  go_wp2_with (fail)
  refine (l_eqInt64S _ _ n _ n _ xs _ _ _ HN.out HN.out (by omega) x6.is hN6.is).mono ?_
  rintro e w7 ⟨rfl, q7, rfl⟩
  go_wp2_with (fail)
  refine (l_mark1 _ n n w2.heap.size xs _ HN.out hl ((x6.drewN q7).own' HN.out hl)).mono ?_
  rintro e w8 ⟨rfl, m8, g8⟩
  have g8 := undrewG g8
  have hg3 : w2.heap.size ≤ g3 ∧ g3 < w3.heap.size := ⟨hN3.1, hN3.lt⟩
  have o08 := kept_ge o0 o06 g8 (fun g hg => by simp [Value.ownBlock] at hg; omega)
  have o18 := kept_lt o16 g8 (fun g hg => by simp [Value.ownBlock] at hg; omega)
  have b8 : Below w.heap.size w w8 := b6.grown g8 b6.size (fun g hg => by simp [Value.ownBlock] at hg; have := b2.size; omega)
  clear g8 m8 x6 x4 hN6 hN1
  go_wp2_with (fail)
  refine (l_eqInt64S _ _ L _ L _ lst _ _ _ HL.out HL.out (by omega) (own_isn o18 HL.out) (own_isn o08 HL.out)).mono ?_
  rintro e w9 ⟨rfl, q9, rfl⟩
  go_wp2_with (fail)
  have o18q : (w8.drewN q9).ownsRow w3.heap.size 2 1 (.slice A1 L c1) L (ints lst) := o18
  refine (l_mark1 A1 L c1 w3.heap.size lst _ HL.out hL0 o18q).mono ?_
  rintro e w10 ⟨rfl, m10, g10⟩
  have g10 := undrewG g10
  have o010 := kept_ge o0 o08 g10 (fun g hg => by have := (o18.lt g hg).1; have := hb3.size; omega)
  have b10 : Below w.heap.size w w10 := b8.grown g10 b8.size (fun g hg => by have := (o18.lt g hg).1; have := b3.size; omega)
  clear g10
  go_wp2_with (fail)
  refine (l_held1 A1 L c1 _ _ hL0 (own_isn m10 (by rw [marks_length]))).mono ?_
  rintro e w11 ⟨rfl, q11, rfl⟩
  go_wp2_with (fail)
  refine (l_toInt64S A n c xs _ HN.out hl ((hs.call b10).drewN q11)).mono ?_
  rintro e w12 ⟨g12, rfl, hN12, hb12⟩
  have hb12 := undrew hb12
  have b12 := bel_call b10 hb12
  have o012 := own_below o010 hb12
  have m12 := own_below m10 hb12
  go_wp2_with (fail)
  refine (i_CubicResolvent _ _ _ xs _ w12.heap.size HN.out hl hN12.is).mono ?_
  rw [HLST.out, HCD.out]
  rintro e w13 ⟨A2, c2, rfl, o2, hb13⟩
  rw [← HL.out] at o2 ⊢
  have b13 := bel_call b12 hb13
  have o013 := own_below o012 hb13
  have m13 := own_below m12 hb13
  go_wp2_with (fail)
  refine (l_eqInt64S _ _ L _ L _ lst _ _ _ HL.out HL.out (by omega) (own_isn o2 HL.out) (own_isn o013 HL.out)).mono ?_
  rintro e w14 ⟨rfl, q14, rfl⟩
  go_wp2_with (fail)
  refine (l_held1 A1 L c1 _ _ hL0 ((own_isn m13 (by rw [marks_length])).drewN q14)).mono ?_
  rintro e w15 ⟨rfl, q15, rfl⟩
  go_wp2_with (fail)
  go_ret
  refine ⟨rfl, ?_⟩
  repeat (first | exact b13 | refine below_drewN ?_ _)
end Go.Proofs.Ytlhkpepnklbnfaa

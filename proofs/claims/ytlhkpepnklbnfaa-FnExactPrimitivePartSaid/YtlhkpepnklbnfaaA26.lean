/- Contracts and walk: PrimitivePart, the law. -/
import Derived.Test.YtlhkpepnklbnfaaA25
namespace Go.Proofs.Ytlhkpepnklbnfaa
set_option linter.unusedVariables false
set_option linter.unusedSimpArgs false
open Go.RowKit

noncomputable def pcode (xs : List Int) : Int := if polyB xs then (if xs.length < 2 then 5 else 0) else 1
noncomputable def primL (xs : List Int) : List Int := if pcode xs = 0 then prim xs else []
theorem polyB_p {xs : List Int} (h : polyB xs = true) (h0 : 0 < xs.length) : (∀ k, k < xs.length → -1000000 ≤ gt xs k ∧ gt xs k ≤ 1000000) ∧ xs.length ≤ 9 ∧ lastI xs ≠ 0 := by
  unfold polyB at h
  simp only [Bool.and_eq_true, Bool.or_eq_true, decide_eq_true_eq] at h
  obtain ⟨h1, h2, h3⟩ := h
  refine ⟨fun k hk => inB_true (allB_p h1 k hk), h2, ?_⟩
  rcases h3 with h3 | h3
  · omega
  · simpa using h3
theorem primL_len (xs : List Int) : (primL xs).length ≤ 1048576 := by
  unfold primL
  split
  · rename_i h
    unfold pcode at h
    cases hp : polyB xs <;> rw [hp] at h <;> simp at h
    have := (polyB_p hp (by omega)).2.1
    rw [prim_len]
    omega
  · simp
theorem IS.here {w : World} {B : Nat} {A : Option Addr} {xs : List Int} (h : IS w B A xs) : IS w w.heap.size A xs := fun hp => by
  obtain ⟨b, off, h1, _, h3⟩ := h hp
  refine ⟨b, off, h1, ?_, h3⟩
  have h4 := h3 0 hp
  by_cases hlt : b < w.heap.size
  · exact hlt
  · exfalso
    have hn : w.heap[b]? = none := Array.getElem?_eq_none (by omega)
    simp [World.cell?, hn] at h4
set_option maxHeartbeats 1000000 in
theorem s_PrimitivePart (A : Option Addr) (n c : Nat) (xs : List Int) (w : World) (B : Nat) (hn : n = xs.length) (hl : n ≤ 1048576) (hs0 : IS w B A xs) :
    Calls Try.prog 36 #[.slice A n c] w (RS (primL xs) (pcode xs) w) := by
  have hs := hs0.here
  clear hs0
  have HN := Lib.hid hn
  clear hn
  have hdef : pcode xs = if polyB xs then (if xs.length < 2 then 5 else 0) else 1 := rfl
  have hdefL : primL xs = if pcode xs = 0 then prim xs else [] := rfl
  cases hp : polyB xs
  · have hc : pcode xs = 1 := by rw [hdef, hp]; rfl
    have HC := Lib.hid hc
    have HX : Hid (primL xs = []) := by unfold Hid; rw [hdefL, hc]; rfl
    clear hdef hdefL hc
    go_enter Try.func36, Try.ntmps36
    go_wp2_with (first | (go_at_call 78; refine (s_IsPolynomial _ _ _ xs _ _ HN.out hl hs).mono ?_; rintro e w' ⟨rfl, nq, rfl⟩; rw [hp]))
    rw [HX.out, HC.out]
    go_ret2
    exact RS.nil (below_drewN (Below.refl _ _) _)
  · by_cases h2 : n < 2
    · have hc : pcode xs = 5 := by rw [hdef, hp, if_pos rfl, if_pos (by rw [← HN.out]; exact h2)]
      have HC := Lib.hid hc
      have HX : Hid (primL xs = []) := by unfold Hid; rw [hdefL, hc]; rfl
      clear hdef hdefL hc
      go_enter Try.func36, Try.ntmps36
      go_wp2_with (first | (go_at_call 78; refine (s_IsPolynomial _ _ _ xs _ _ HN.out hl hs).mono ?_; rintro e w' ⟨rfl, nq, rfl⟩; rw [hp]))
      rw [HX.out, HC.out]
      go_ret2
      exact RS.nil (below_drewN (Below.refl _ _) _)
    · have hc : pcode xs = 0 := by rw [hdef, hp, if_pos rfl, if_neg (by rw [← HN.out]; exact h2)]
      have HC := Lib.hid hc
      have HX : Hid (primL xs = prim xs) := by unfold Hid; rw [hdefL, hc]; rfl
      obtain ⟨hb1, hb2, hb3⟩ := polyB_p hp (by rw [← HN.out]; omega)
      have HB := Lib.hid hb1
      have HB3 := Lib.hid hb3
      have h0 : 0 < n := by omega
      clear hdef hdefL hc hb1 hb2 hb3
      go_enter Try.func36, Try.ntmps36
      go_wp2_with (first | (go_at_call 78; refine (s_IsPolynomial _ _ _ xs _ _ HN.out hl hs).mono ?_; rintro e w' ⟨rfl, nq, rfl⟩; rw [hp]) | (go_at_call 79; refine (s_l26Primitive _ _ _ xs _ HN.out hl (hs.drewN _) HB.out h0 HB3.out).mono ?_; rintro e w1 ⟨A1, c1, rfl, o1, hb1⟩))
      rw [HX.out, HC.out]
      go_ret2
      exact ⟨A1, c1, rfl, own_mono o1 (Nat.le_refl _), bel_call (below_drewN (Below.refl _ _) _) hb1⟩
set_option maxHeartbeats 1000000 in
theorem i_PrimitivePart (A : Option Addr) (n c : Nat) (xs : List Int) (w : World) (B : Nat) (hn : n = xs.length) (hl : n ≤ 1048576) (hs0 : IS w B A xs) :
    Calls Try.prog 37 #[.slice A n c] w (RS (primL xs) (pcode xs) w) := by
  have hs := hs0.here
  clear hs0
  have HN := Lib.hid hn
  clear hn
  have hdef : pcode xs = if polyB xs then (if xs.length < 2 then 5 else 0) else 1 := rfl
  have hdefL : primL xs = if pcode xs = 0 then prim xs else [] := rfl
  cases hp : polyB xs
  · have hc : pcode xs = 1 := by rw [hdef, hp]; rfl
    have HC := Lib.hid hc
    have HX : Hid (primL xs = []) := by unfold Hid; rw [hdefL, hc]; rfl
    clear hdef hdefL hc
    go_enter Try.func37, Try.ntmps37
    go_wp2_with (first | (go_at_call 80; refine (i_IsPolynomial _ _ _ xs _ _ HN.out hl hs).mono ?_; rintro e w' ⟨rfl, nq, rfl⟩; rw [hp]))
    rw [HX.out, HC.out]
    go_ret2
    exact RS.nil (below_drewN (Below.refl _ _) _)
  · by_cases h2 : n < 2
    · have hc : pcode xs = 5 := by rw [hdef, hp, if_pos rfl, if_pos (by rw [← HN.out]; exact h2)]
      have HC := Lib.hid hc
      have HX : Hid (primL xs = []) := by unfold Hid; rw [hdefL, hc]; rfl
      clear hdef hdefL hc
      go_enter Try.func37, Try.ntmps37
      go_wp2_with (first | (go_at_call 80; refine (i_IsPolynomial _ _ _ xs _ _ HN.out hl hs).mono ?_; rintro e w' ⟨rfl, nq, rfl⟩; rw [hp]) | (go_at_call 81; refine (i_degree _ _ _ _ hl).mono ?_; rintro e w' ⟨rfl, nq2, rfl⟩))
      rw [HX.out, HC.out]
      go_ret2
      exact RS.nil (by first | exact below_drewN (Below.refl _ _) _ | exact below_drewN (below_drewN (Below.refl _ _) _) _)
    · have hc : pcode xs = 0 := by rw [hdef, hp, if_pos rfl, if_neg (by rw [← HN.out]; exact h2)]
      have HC := Lib.hid hc
      have HX : Hid (primL xs = prim xs) := by unfold Hid; rw [hdefL, hc]; rfl
      obtain ⟨hb1, hb2, hb3⟩ := polyB_p hp (by rw [← HN.out]; omega)
      have HB := Lib.hid hb1
      have HB3 := Lib.hid hb3
      have h0 : 0 < n := by omega
      clear hdef hdefL hc hb1 hb2 hb3
      go_enter Try.func37, Try.ntmps37
      go_wp2_with (first | (go_at_call 80; refine (i_IsPolynomial _ _ _ xs _ _ HN.out hl hs).mono ?_; rintro e w' ⟨rfl, nq, rfl⟩; rw [hp]) | (go_at_call 81; refine (i_degree _ _ _ _ hl).mono ?_; rintro e w' ⟨rfl, nq2, rfl⟩) | (go_at_call 82; refine (i_primitive _ _ _ xs _ HN.out hl (hs.drewN _) HB.out h0 HB3.out).mono ?_; rintro e w1 ⟨A1, c1, rfl, o1, hb1⟩))
      rw [HX.out, HC.out]
      go_ret2
      exact ⟨A1, c1, rfl, own_mono o1 (Nat.le_refl _), bel_call (below_drewN (Below.refl _ _) _) hb1⟩
set_option maxHeartbeats 4000000 in
theorem law_PrimitivePart (A : Option Addr) (n c : Nat) (xs : List Int) (w : World) (hn : n = xs.length) (hc : n ≤ c) (hm : c ≤ maxLen) (hr : R64 xs) (hs : IS w w.heap.size A xs) :
    Calls Try.prog 9 #[.slice A n c] w (M (.bool true) w) := by
  unfold maxLen at hm
  have HN := Lib.hid hn
  clear hn hr
  by_cases hbig : 1048576 < n
  · go_enter Try.func9, Try.ntmps9
    go_wp2_with (fail)
    go_ret
    exact ⟨rfl, Below.refl _ _⟩
  have hl : n ≤ 1048576 := by omega
  clear hbig
  have hL0 : (primL xs).length ≤ 1048576 := primL_len xs
  generalize hlst : primL xs = lst at *
  have HLST := Lib.hid hlst
  clear hlst
  generalize hcd : pcode xs = cd at *
  have HCD := Lib.hid hcd
  clear hcd
  generalize hL : lst.length = L at hL0
  have HL := Lib.hid hL.symm
  clear hL
  go_enter Try.func9, Try.ntmps9
  go_wp2_with (fail)
  refine (l_toInt64S A n c xs _ HN.out hl hs).mono ?_
  rintro e w1 ⟨g1, rfl, hN1, b1⟩
  go_wp2_with (fail)
  refine (s_PrimitivePart _ _ _ xs _ w1.heap.size HN.out hl hN1.is).mono ?_
  rw [HLST.out, HCD.out]
  rintro e w2 ⟨A0, c0, rfl, o0, hb2⟩
  rw [← HL.out] at o0 ⊢
  have b2 := bel_call b1 hb2
  go_wp2_with (fail)
  refine (l_toInt64S A n c xs _ HN.out hl (hs.call b2)).mono ?_
  rintro e w3 ⟨g3, rfl, hN3, hb3⟩
  have b3 := bel_call b2 hb3
  have o03 := own_below o0 hb3
  go_wp2_with (fail)
  refine (i_PrimitivePart _ _ _ xs _ w3.heap.size HN.out hl hN3.is).mono ?_
  rw [HLST.out, HCD.out]
  rintro e w4 ⟨A1, c1, rfl, o1, hb4⟩
  rw [← HL.out] at o1 ⊢
  have b4 := bel_call b3 hb4
  have o04 := own_below o03 hb4
  have x4 := hN3.below hb4 hN3.lt
  go_wp2_with (fail)
  refine (l_eqInt64S _ _ L _ L _ lst _ _ _ HL.out HL.out (by omega) (own_isn o1 HL.out) (own_isn o04 HL.out)).mono ?_
  rintro e w5 ⟨rfl, q5, rfl⟩
  go_wp2_with (fail)
  refine (l_toInt64S A n c xs _ HN.out hl ((hs.call b4).drewN q5)).mono ?_
  rintro e w6 ⟨g6, rfl, hN6, hb6⟩
  have hb6 := undrew hb6
  have b6 := bel_call b4 hb6
  have x6 := x4.below hb6 x4.lt
  have o06 := own_below o04 hb6
  have o16 := own_below o1 hb6
  go_wp2_with (fail)
  refine (l_eqInt64S _ _ n _ n _ xs _ _ _ HN.out HN.out (by omega) x6.is hN6.is).mono ?_
  rintro e w7 ⟨rfl, q7, rfl⟩
  go_wp2_with (fail)
  refine (l_mark1 _ n n w2.heap.size xs _ HN.out hl ((x6.drewN q7).own' HN.out hl)).mono ?_
  rintro e w8 ⟨rfl, m8, g8⟩
  have g8 := undrewG g8
  have hg3 : w2.heap.size ≤ g3 ∧ g3 < w3.heap.size := ⟨hN3.1, hN3.lt⟩
  have o08 := kept_ge o0 o06 g8 (fun g hg => by simp [Value.ownBlock] at hg; omega)
  have o18 := kept_lt o16 g8 (fun g hg => by simp [Value.ownBlock] at hg; omega)
  have b8 : Below w.heap.size w w8 := b6.grown g8 b6.size (fun g hg => by simp [Value.ownBlock] at hg; have := b2.size; omega)
  clear g8 m8 x6 x4 hN6 hN1
  go_wp2_with (fail)
  refine (l_eqInt64S _ _ L _ L _ lst _ _ _ HL.out HL.out (by omega) (own_isn o18 HL.out) (own_isn o08 HL.out)).mono ?_
  rintro e w9 ⟨rfl, q9, rfl⟩
  go_wp2_with (fail)
  have o18q : (w8.drewN q9).ownsRow w3.heap.size 2 1 (.slice A1 L c1) L (ints lst) := o18
  refine (l_mark1 A1 L c1 w3.heap.size lst _ HL.out hL0 o18q).mono ?_
  rintro e w10 ⟨rfl, m10, g10⟩
  have g10 := undrewG g10
  have o010 := kept_ge o0 o08 g10 (fun g hg => by have := (o18.lt g hg).1; have := hb3.size; omega)
  have b10 : Below w.heap.size w w10 := b8.grown g10 b8.size (fun g hg => by have := (o18.lt g hg).1; have := b3.size; omega)
  clear g10
  go_wp2_with (fail)
  refine (l_held1 A1 L c1 _ _ hL0 (own_isn m10 (by rw [marks_length]))).mono ?_
  rintro e w11 ⟨rfl, q11, rfl⟩
  go_wp2_with (fail)
  refine (l_toInt64S A n c xs _ HN.out hl ((hs.call b10).drewN q11)).mono ?_
  rintro e w12 ⟨g12, rfl, hN12, hb12⟩
  have hb12 := undrew hb12
  have b12 := bel_call b10 hb12
  have o012 := own_below o010 hb12
  have m12 := own_below m10 hb12
  go_wp2_with (fail)
  refine (i_PrimitivePart _ _ _ xs _ w12.heap.size HN.out hl hN12.is).mono ?_
  rw [HLST.out, HCD.out]
  rintro e w13 ⟨A2, c2, rfl, o2, hb13⟩
  rw [← HL.out] at o2 ⊢
  have b13 := bel_call b12 hb13
  have o013 := own_below o012 hb13
  have m13 := own_below m12 hb13
  go_wp2_with (fail)
  refine (l_eqInt64S _ _ L _ L _ lst _ _ _ HL.out HL.out (by omega) (own_isn o2 HL.out) (own_isn o013 HL.out)).mono ?_
  rintro e w14 ⟨rfl, q14, rfl⟩
  go_wp2_with (fail)
  refine (l_held1 A1 L c1 _ _ hL0 ((own_isn m13 (by rw [marks_length])).drewN q14)).mono ?_
  rintro e w15 ⟨rfl, q15, rfl⟩
  go_wp2_with (fail)
  go_ret
  refine ⟨rfl, ?_⟩
  repeat (first | exact b13 | refine below_drewN ?_ _)
end Go.Proofs.Ytlhkpepnklbnfaa

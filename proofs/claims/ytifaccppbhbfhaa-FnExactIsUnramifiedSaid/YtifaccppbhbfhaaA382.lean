/- Contracts: IsUnramified, both sides; its law. -/
import Derived.Test.YtifaccppbhbfhaaA381
namespace Go.Proofs.Ytifaccppbhbfhaa
set_option linter.unusedVariables false
set_option linter.unusedSimpArgs false
open Go.RowKit

/-- The code of a prime and a monic polynomial. -/
noncomputable def extC (p : Int) (xs : List Int) : Int := if smallB p = true ∧ polyB xs = true then (if 2 ≤ xs.length ∧ lastI xs = 1 then 0 else 5) else 1
theorem extC_0 {p : Int} {xs : List Int} (h : extC p xs = 0) : smallB p = true ∧ polyB xs = true ∧ 2 ≤ xs.length ∧ lastI xs = 1 := by
  unfold extC at h
  by_cases h1 : smallB p = true ∧ polyB xs = true
  · rw [if_pos h1] at h
    by_cases h2 : 2 ≤ xs.length ∧ lastI xs = 1
    · exact ⟨h1.1, h1.2, h2.1, h2.2⟩
    · rw [if_neg h2] at h; cases h
  · rw [if_neg h1] at h; cases h
theorem extC_1 {p : Int} {xs : List Int} (h : smallB p = false ∨ polyB xs = false) : extC p xs = 1 := by
  unfold extC; rw [if_neg]; rintro ⟨h1, h2⟩; rcases h with h | h
  · rw [h1] at h; cases h
  · rw [h2] at h; cases h
theorem extC_5 {p : Int} {xs : List Int} (h1 : smallB p = true) (h2 : polyB xs = true) (h : ¬ (2 ≤ xs.length ∧ lastI xs = 1)) : extC p xs = 5 := by
  unfold extC; rw [if_pos ⟨h1, h2⟩, if_neg h]
theorem extC_z {p : Int} {xs : List Int} (h1 : smallB p = true) (h2 : polyB xs = true) (h : 2 ≤ xs.length ∧ lastI xs = 1) : extC p xs = 0 := by
  unfold extC; rw [if_pos ⟨h1, h2⟩, if_pos h]
theorem polyB_len {xs : List Int} (h : polyB xs = true) : xs.length ≤ 9 := by
  unfold polyB at h
  simp at h
  exact h.2.1
set_option maxHeartbeats 1000000 in
theorem i_extending (p : Int) (A : Option Addr) (n c : Nat) (xs : List Int) (w : World) (hn : n = xs.length) (hl : n ≤ 1048576) (hs : IS w w.heap.size A xs) : Calls Try.prog 22 #[.int .i64 p, .slice A n c] w (Q (.int .i64 (extC p xs)) w) := by
  have HN := Lib.hid hn
  clear hn
  cases h1 : smallB p with
  | false =>
    have HC : Hid (extC p xs = 1) := extC_1 (.inl h1)
    go_enter Try.func22, Try.ntmps22
    go_wp2_with (first | (go_at_call 38; refine (i_isSmallPrime _ _).mono ?_; rintro e w1 ⟨rfl, q1, rfl⟩; rw [h1]))
    go_ret
    exact ⟨ret_int HC.out.symm, _, rfl⟩
  | true =>
    cases h2 : polyB xs with
    | false =>
      have HC : Hid (extC p xs = 1) := extC_1 (.inr h2)
      go_enter Try.func22, Try.ntmps22
      go_wp2_with (first | (go_at_call 38; refine (i_isSmallPrime _ _).mono ?_; rintro e w1 ⟨rfl, q1, rfl⟩; rw [h1]) | (go_at_call 39; refine (i_IsPolynomial _ _ _ xs _ _ HN.out hl (hs.drewN _)).mono ?_; rintro e w1 ⟨rfl, q2, rfl⟩; rw [h2]))
      go_ret
      exact ⟨ret_int HC.out.symm, _, rfl⟩
    | true =>
      cases h3 : monB xs with
      | false =>
        have HC : Hid (extC p xs = 5) := extC_5 h1 h2 (by
          unfold monB at h3
          rintro ⟨h4, h5⟩
          rw [h5, decide_eq_true (by omega)] at h3
          cases h3)
        go_enter Try.func22, Try.ntmps22
        go_wp2_with (first | (go_at_call 38; refine (i_isSmallPrime _ _).mono ?_; rintro e w1 ⟨rfl, q1, rfl⟩; rw [h1]) | (go_at_call 39; refine (i_IsPolynomial _ _ _ xs _ _ HN.out hl (hs.drewN _)).mono ?_; rintro e w1 ⟨rfl, q2, rfl⟩; rw [h2]) | (go_at_call 40; refine (i_isMonic _ _ _ xs _ _ HN.out hl (hs.drewN _)).mono ?_; rintro e w1 ⟨rfl, q3, rfl⟩; rw [h3]))
        go_ret
        exact ⟨ret_int HC.out.symm, _, rfl⟩
      | true =>
        have h5 : lastI xs = 1 := by
          unfold monB at h3
          simp at h3
          exact h3.2
        by_cases h4 : n < 2
        · have HC : Hid (extC p xs = 5) := extC_5 h1 h2 (by rw [← HN.out]; omega)
          go_enter Try.func22, Try.ntmps22
          go_wp2_with (first | (go_at_call 38; refine (i_isSmallPrime _ _).mono ?_; rintro e w1 ⟨rfl, q1, rfl⟩; rw [h1]) | (go_at_call 39; refine (i_IsPolynomial _ _ _ xs _ _ HN.out hl (hs.drewN _)).mono ?_; rintro e w1 ⟨rfl, q2, rfl⟩; rw [h2]) | (go_at_call 40; refine (i_isMonic _ _ _ xs _ _ HN.out hl (hs.drewN _)).mono ?_; rintro e w1 ⟨rfl, q3, rfl⟩; rw [h3]) | (go_at_call 41; refine (i_degree _ _ _ _ hl).mono ?_; rintro e w' ⟨rfl, q4, rfl⟩))
          go_ret
          exact ⟨ret_int HC.out.symm, _, rfl⟩
        · have HC : Hid (extC p xs = 0) := extC_z h1 h2 ⟨by rw [← HN.out]; omega, h5⟩
          go_enter Try.func22, Try.ntmps22
          go_wp2_with (first | (go_at_call 38; refine (i_isSmallPrime _ _).mono ?_; rintro e w1 ⟨rfl, q1, rfl⟩; rw [h1]) | (go_at_call 39; refine (i_IsPolynomial _ _ _ xs _ _ HN.out hl (hs.drewN _)).mono ?_; rintro e w1 ⟨rfl, q2, rfl⟩; rw [h2]) | (go_at_call 40; refine (i_isMonic _ _ _ xs _ _ HN.out hl (hs.drewN _)).mono ?_; rintro e w1 ⟨rfl, q3, rfl⟩; rw [h3]) | (go_at_call 41; refine (i_degree _ _ _ _ hl).mono ?_; rintro e w' ⟨rfl, q4, rfl⟩))
          go_ret
          exact ⟨ret_int HC.out.symm, _, rfl⟩
set_option maxHeartbeats 1000000 in
theorem s_l15Code (p : Int) (A : Option Addr) (n c : Nat) (xs : List Int) (w : World) (hp : -9223372036854775808 ≤ p) (hn : n = xs.length) (hl : n ≤ 1048576) (hs : IS w w.heap.size A xs) : Calls Try.prog 19 #[.int .i64 p, .slice A n c] w (Q (.int .i64 (extC p xs)) w) := by
  have HN := Lib.hid hn
  clear hn
  cases h1 : smallB p with
  | false =>
    have HC : Hid (extC p xs = 1) := extC_1 (.inl h1)
    go_enter Try.func19, Try.ntmps19
    go_wp2_with (first | (go_at_call 34; refine (s_l01Small _ _ hp).mono ?_; rintro e w1 ⟨rfl, q1, rfl⟩; rw [h1]))
    go_ret
    exact ⟨ret_int HC.out.symm, _, rfl⟩
  | true =>
    cases h2 : polyB xs with
    | false =>
      have HC : Hid (extC p xs = 1) := extC_1 (.inr h2)
      go_enter Try.func19, Try.ntmps19
      go_wp2_with (first | (go_at_call 34; refine (s_l01Small _ _ hp).mono ?_; rintro e w1 ⟨rfl, q1, rfl⟩; rw [h1]) | (go_at_call 35; refine (s_IsPolynomial _ _ _ xs _ _ HN.out hl (hs.drewN _)).mono ?_; rintro e w1 ⟨rfl, q2, rfl⟩; rw [h2]))
      go_ret
      exact ⟨ret_int HC.out.symm, _, rfl⟩
    | true =>
      by_cases h4 : n < 2
      · have HC : Hid (extC p xs = 5) := extC_5 h1 h2 (by rw [← HN.out]; omega)
        have h4' : (n : Int) < 2 := by omega
        clear h4
        go_enter Try.func19, Try.ntmps19
        go_wp2_with (first | (go_at_call 34; refine (s_l01Small _ _ hp).mono ?_; rintro e w1 ⟨rfl, q1, rfl⟩; rw [h1]) | (go_at_call 35; refine (s_IsPolynomial _ _ _ xs _ _ HN.out hl (hs.drewN _)).mono ?_; rintro e w1 ⟨rfl, q2, rfl⟩; rw [h2]))
        go_ret
        exact ⟨ret_int HC.out.symm, _, rfl⟩
      · obtain ⟨b, off, rfl, hcl⟩ := hs.last HN.out (by omega)
        obtain ⟨d, hd⟩ : ∃ d, n = d + 1 := ⟨n - 1, by omega⟩
        have hd1 : n - 1 = d := by omega
        rw [hd1] at hcl
        have hkd : (n : Int) - 1 = (d : Int) := by omega
        have hdk : d < n := by omega
        have h4' : (2 : Int) ≤ (n : Int) := by omega
        have HC : Hid (extC p xs = if lastI xs = 1 then 0 else 5) := by
          unfold Hid extC
          rw [if_pos ⟨h1, h2⟩]
          by_cases h5 : lastI xs = 1
          · rw [if_pos ⟨by rw [← HN.out]; omega, h5⟩, if_pos h5]
          · rw [if_neg (fun h => h5 h.2), if_neg h5]
        generalize lastI xs = z at *
        clear hd hd1 h4
        by_cases h5 : z = 1
        · subst h5
          go_enter Try.func19, Try.ntmps19
          go_wp2_with (first | (go_at_call 34; refine (s_l01Small _ _ hp).mono ?_; rintro e w1 ⟨rfl, q1, rfl⟩; rw [h1]) | (go_at_call 35; refine (s_IsPolynomial _ _ _ xs _ _ HN.out hl (hs.drewN _)).mono ?_; rintro e w1 ⟨rfl, q2, rfl⟩; rw [h2]))
          go_ret
          exact ⟨ret_int (by rw [HC.out]; rfl), _, rfl⟩
        · have h5' : (z != 1) = true := by rw [bne_iff_ne]; exact h5
          have HC5 : Hid (extC p xs = 5) := by unfold Hid; rw [HC.out, if_neg h5]
          clear h5
          go_enter Try.func19, Try.ntmps19
          go_wp2_with (first | (go_at_call 34; refine (s_l01Small _ _ hp).mono ?_; rintro e w1 ⟨rfl, q1, rfl⟩; rw [h1]) | (go_at_call 35; refine (s_IsPolynomial _ _ _ xs _ _ HN.out hl (hs.drewN _)).mono ?_; rintro e w1 ⟨rfl, q2, rfl⟩; rw [h2]))
          go_ret
          exact ⟨ret_int HC5.out.symm, _, rfl⟩
/-- A monic list stays as long by p. -/
theorem red_mon {p : Int} {xs : List Int} (hp : 2 ≤ p) (h0 : 0 < xs.length) (h : lastI xs = 1) : (trimL (xs.map (· % p))).length = xs.length := by
  rw [trimL_len, List.length_map]
  obtain ⟨d, hd⟩ : ∃ d, xs.length = d + 1 := ⟨xs.length - 1, by omega⟩
  rw [hd, trimN, if_neg]
  rw [gt_mapmod]
  unfold lastI at h
  rw [hd, Nat.add_sub_cancel] at h
  rw [h, Int.emod_eq_of_lt (by omega) (by omega)]
  omega
/-- Is the image of a polynomial irreducible. -/
noncomputable def unB (p : Int) (xs : List Int) : Bool := if extC p xs = 0 then irA p (trimL (xs.map (· % p))) else false
set_option maxHeartbeats 1000000 in
theorem i_IsUnramified (p : Int) (A : Option Addr) (n c : Nat) (xs : List Int) (w : World) (hn : n = xs.length) (hl : n ≤ 1048576) (hs : IS w w.heap.size A xs) : Calls Try.prog 9 #[.int .i64 p, .slice A n c] w (MJ (unB p xs) (extC p xs) w) := by
  have hm := i_extending p A n c xs w hn hl hs
  have HN := Lib.hid hn
  clear hn
  by_cases h1 : extC p xs = 0
  · obtain ⟨g1, g2, g3, g4⟩ := extC_0 h1
    obtain ⟨P, rfl, hp, hp2, hp97⟩ := FX.prm_of g1
    haveI : NeZero P := ⟨by omega⟩
    have hlen := red_mon (p := (P : Int)) (by omega) (by omega) g4
    have hrd := fun W h => i_reduce (P : Int) A n c xs W (by omega) (by omega) HN.out (by rw [HN.out]; omega) (by rw [HN.out]; have := polyB_len g2; omega) h
    have hir := fun A' c' W h => i_irr P hp97 hp A' _ c' (trimL (xs.map (· % (P : Int)))) W rfl (by omega) (by have := polyB_len g2; omega) (can_red P xs) h
    have HB : Hid (unB (P : Int) xs = irV P (trimL (xs.map (· % (P : Int))))) := by unfold Hid unB; rw [if_pos h1, irA_nat]
    generalize trimL (xs.map (· % (P : Int))) = l at *
    have HC := Lib.hid h1
    rw [h1] at hm
    clear h1 g1 g2 g3 g4 hlen
    go_enter Try.func9, Try.ntmps9
    go_wp2_with (first | (go_at_call 22; refine hm.mono ?_; rintro e w1 ⟨rfl, q1, rfl⟩) | (go_at_call 24; refine (hrd _ (hs.drewN _)).mono ?_; rintro e w2 ⟨A2, c2, rfl, ho2, hb2⟩))
    refine (hir _ _ _ (RV.is ho2)).mono ?_
    rintro e w3 ⟨rfl, b3⟩
    go_wp2_with (fail)
    go_ret2
    exact ⟨ret_bj HB.out.symm HC.out.symm, undrew (bel_call hb2 b3)⟩
  · have HB : Hid (unB p xs = false) := by unfold Hid unB; rw [if_neg h1]
    generalize extC p xs = cd at *
    have h1' : (cd == 0) = false := by rw [beq_eq_false_iff_ne]; exact h1
    clear h1
    go_enter Try.func9, Try.ntmps9
    go_wp2_with (go_at_call 22; refine hm.mono ?_; rintro e w1 ⟨rfl, q1, rfl⟩)
    go_ret2
    exact ⟨ret_bj HB.out.symm rfl, below_drewN (Below.refl _ _) _⟩
set_option maxHeartbeats 1000000 in
theorem s_IsUnramified (p : Int) (A : Option Addr) (n c : Nat) (xs : List Int) (w : World) (hp : -9223372036854775808 ≤ p) (hn : n = xs.length) (hl : n ≤ 1048576) (hs : IS w w.heap.size A xs) : Calls Try.prog 7 #[.int .i64 p, .slice A n c] w (MJ (unB p xs) (extC p xs) w) := by
  have hm := s_l15Code p A n c xs w hp hn hl hs
  have HN := Lib.hid hn
  clear hn
  by_cases h1 : extC p xs = 0
  · obtain ⟨g1, g2, g3, g4⟩ := extC_0 h1
    obtain ⟨P, rfl, hp, hp2, hp97⟩ := FX.prm_of g1
    haveI : NeZero P := ⟨by omega⟩
    have hlen := red_mon (p := (P : Int)) (by omega) (by omega) g4
    have hrd := fun W h => s_reduce (P : Int) A n c xs W (by omega) (by omega) HN.out (by rw [HN.out]; omega) (by rw [HN.out]; have := polyB_len g2; omega) h
    have hir := fun A' c' W h => s_irr P hp97 hp A' _ c' (trimL (xs.map (· % (P : Int)))) W rfl (by omega) (by have := polyB_len g2; omega) (can_red P xs) h
    have HB : Hid (unB (P : Int) xs = irV P (trimL (xs.map (· % (P : Int))))) := by unfold Hid unB; rw [if_pos h1, irA_nat]
    generalize trimL (xs.map (· % (P : Int))) = l at *
    have HC := Lib.hid h1
    rw [h1] at hm
    clear h1 g1 g2 g3 g4 hlen
    go_enter Try.func7, Try.ntmps7
    go_wp2_with (first | (go_at_call 19; refine hm.mono ?_; rintro e w1 ⟨rfl, q1, rfl⟩) | (go_at_call 21; refine (hrd _ (hs.drewN _)).mono ?_; rintro e w2 ⟨A2, c2, rfl, ho2, hb2⟩))
    refine (hir _ _ _ (RV.is ho2)).mono ?_
    rintro e w3 ⟨rfl, b3⟩
    go_wp2_with (fail)
    go_ret2
    exact ⟨ret_bj HB.out.symm HC.out.symm, undrew (bel_call hb2 b3)⟩
  · have HB : Hid (unB p xs = false) := by unfold Hid unB; rw [if_neg h1]
    generalize extC p xs = cd at *
    have h1' : (cd == 0) = false := by rw [beq_eq_false_iff_ne]; exact h1
    clear h1
    go_enter Try.func7, Try.ntmps7
    go_wp2_with (go_at_call 19; refine hm.mono ?_; rintro e w1 ⟨rfl, q1, rfl⟩)
    go_ret2
    exact ⟨ret_bj HB.out.symm rfl, below_drewN (Below.refl _ _) _⟩
set_option maxHeartbeats 2000000 in
theorem law_IsUnramified (p : Int) (A : Option Addr) (n c : Nat) (xs : List Int) (w : World) (hp : -9223372036854775808 ≤ p ∧ p ≤ 9223372036854775807) (hn : n = xs.length) (hc : n ≤ c) (hm : c ≤ maxLen) (hr : R64 xs) (hs : IS w w.heap.size A xs) :
    Calls Try.prog 3 #[.int .i64 p, .slice A n c] w (M (.bool true) w) := by
  unfold maxLen at hm
  by_cases hbig : 1048576 < n
  · have HN := Lib.hid hn
    clear hn
    go_enter Try.func3, Try.ntmps3
    go_wp2_with (fail)
    go_ret
    exact ⟨rfl, Below.refl _ _⟩
  have hl : n ≤ 1048576 := by omega
  clear hbig
  have HN := Lib.hid hn
  have hp0 := hp.1
  clear hn hr hp
  have hS := fun A c W h => s_IsUnramified p A n c xs W hp0 HN.out hl h
  have hI := fun A c W h => i_IsUnramified p A n c xs W HN.out hl h
  generalize unB p xs = b at *
  generalize extC p xs = cd at *
  go_enter Try.func3, Try.ntmps3
  go_wp2_with (fail)
  refine (l_toInt64S A n c xs _ HN.out hl hs).mono ?_
  rintro e w1 ⟨g1, rfl, hN1, b1⟩
  go_wp2_with (fail)
  refine (hS _ _ _ hN1.is).mono ?_
  rintro e w2 ⟨rfl, hb2⟩
  have b2 := bel_call b1 hb2
  go_wp2_with (fail)
  refine (l_toInt64S A n c xs _ HN.out hl (hs.call b2)).mono ?_
  rintro e w3 ⟨g3, rfl, hN3, hb3⟩
  have b3 := bel_call b2 hb3
  go_wp2_with (fail)
  refine (hI _ _ _ hN3.is).mono ?_
  rintro e w4 ⟨rfl, hb4⟩
  have b4 := bel_call b3 hb4
  have hN4 := hN3.below hb4 hN3.lt
  go_wp2_with (fail)
  refine (l_toInt64S A n c xs _ HN.out hl (hs.call b4)).mono ?_
  rintro e w5 ⟨g5, rfl, hN5, hb5⟩
  have b5 := bel_call b4 hb5
  have hN6 := hN4.below hb5 hN4.lt
  go_wp2_with (fail)
  refine (l_eqInt64S _ _ n _ n _ xs _ _ _ HN.out HN.out (by omega) hN6.is hN5.is).mono ?_
  rintro e w6 ⟨rfl, q6, rfl⟩
  go_wp2_with (fail)
  go_ret
  exact ⟨rfl, below_drewN b5 _⟩
end Go.Proofs.Ytifaccppbhbfhaa

/- What is written is read, what is read is written: the law. -/
import Derived.Test.YtjfinniebijgbaaDoorA325
import Derived.Test.YtjfinniebijgbaaDoorA231
namespace Go.Proofs.YtjfinniebijgbaaDoor
set_option linter.unusedVariables false
set_option linter.unusedSimpArgs false
open Go.RowKit
open Go.Lib hiding intOf

theorem bl_back (s : ByteArray) : bl s.data.toList = s := by
  cases s
  simp [bl]
set_option maxRecDepth 20000 in
set_option maxHeartbeats 4000000 in
theorem law_TypeTexts (A : Option Addr) (n c : Nat) (w : World) (hm : n ≤ maxLen) (hs : YB w w.heap.size A n) (hv : VW w) :
    Calls Tryd.prog 6 #[.slice A n c] w (M (.bool true) w) := by
  unfold maxLen at hm
  by_cases hbig : 4096 < n
  · clear hv
    go_enter Tryd.func6, Tryd.ntmps6
    go_wp2_with (go_at_call 17; refine (l_bigYes A n c _ hbig).mono ?_; rintro e w1 ⟨rfl, q1, rfl⟩)
    go_ret
    exact ⟨rfl, below_drewN (Below.refl _ _) _⟩
  have hn : n ≤ 4096 := by omega
  have HV := Lib.hid hv
  clear hm hbig hv
  have hd1 := fun W h => s_DrawTypeText A n c W hn h
  have hd2 := fun W h => s_DrawReadType A n c W hn h
  go_enter Tryd.func6, Tryd.ntmps6
  go_wp2_with (go_at_call 17; refine (l_bigNo A n c _ hn).mono ?_; rintro e w1 ⟨rfl, q1, rfl⟩)
  have b1 := below_drewN (Below.refl w.heap.size w) q1
  generalize w.drewN q1 = w1 at *
  refine (hd1 _ (hs.call b1)).mono ?_
  rintro e w2 ⟨A2, L, c2, l, rfl, hL, hl, IL, hb2⟩
  have b2 := bel_call b1 hb2
  have h1 := fun W h h' => i_TypeText A2 L c2 l W hL (by omega) h h'
  have h2 := fun W h => s_TypeText A2 L c2 l W hL (by omega) h
  have h5 : txC l = 0 → ∀ W, VW W → Calls Tryd.prog 14 #[.string (bl (txV l))] W (RS l 0 W) := fun h W hW => by
    have hts := tx_small l
    have := i_ReadType (bl (txV l)) W (by rw [bl_size]; omega) hW
    rw [show (bl (txV l)).data.toList = txV l from bl_toList _, (tx_back h).1, (tx_back h).2] at this
    exact this
  unfold RS at h5
  rw [← hL] at h5
  have H5 := Lib.hid h5
  have HL := Lib.hid hL
  have HI := Lib.hid IL
  clear h5 hL hb2 hd1
  generalize bl (txV l) = tx at *
  generalize txC l = C1 at *
  have htt : (tx.toList == tx.toList) = true := by simp
  go_wp2_with (fail)
  refine (h1 _ IL (HV.out.below b2).mw).mono ?_
  rintro e w3 ⟨rfl, hb3⟩
  go_wp2_with (fail)
  refine (h2 _ (IL.call hb3)).mono ?_
  rintro e w4 ⟨rfl, hb4⟩
  have k4 := bel_call hb3 hb4
  clear h1 h2 hb3 hb4 IL
  go_wp2_with (fail)
  refine (hd2 _ (hs.call (bel_call b2 k4))).mono ?_
  rintro e w5 ⟨s, rfl, hsz, hb5⟩
  have k5 := bel_call k4 hb5
  have h3 := fun W h => i_ReadType s W (by omega) h
  have h4 := fun W => s_ReadType s W (by omega)
  have hl6 := rtyL_len s.data.toList
  have h6 : rtyC s.data.toList = 0 → ∀ A c W, IS W W.heap.size A (rtyL s.data.toList) → MW W → Calls Tryd.prog 9 #[.slice A (rtyL s.data.toList).length c] W (M (.tuple #[.string s, .int .i64 0]) W) := fun h A c W hI hM => by
    have := i_TypeText A _ c (rtyL s.data.toList) W rfl (by omega) hI hM
    rw [(rt_back h).1, (rt_back h).2, bl_back] at this
    exact this
  unfold RS at h3 h4
  generalize rtyL s.data.toList = l2 at *
  generalize rtyC s.data.toList = C2 at *
  generalize hm2 : l2.length = m at *
  have HM := Lib.hid hm2.symm
  have H6 := Lib.hid h6
  clear hm2 h6 hd2 hs hb5 k4
  have hss : (s.toList == s.toList) = true := by simp
  go_wp2_with (fail)
  refine (h3 _ (HV.out.below (bel_call b2 k5))).mono ?_
  rintro e w6 ⟨A6, c6, rfl, o6, hb6⟩
  have k6 := bel_call k5 hb6
  go_wp2_with (fail)
  refine (h4 _).mono ?_
  rintro e w7 ⟨A7, c7, rfl, o7, hb7⟩
  have k7 := bel_call k6 hb7
  have o67 := own_below o6 hb7
  clear h3 h4 hb6 hb7 k5 k6 o6
  have hlk := l_likeInts A6 A7 m c6 c7 l2 w7 _ _ HM.out (by omega) (own_isn o67 HM.out) (own_isn o7 HM.out)
  go_wp2_with (fail)
  refine hlk.mono ?_
  rintro e w8 ⟨rfl, q8, rfl⟩
  have i6 : IS (w7.drewN q8) (w7.drewN q8).heap.size A6 l2 := (own_isn o67 HM.out).drewN q8
  have k8 := below_drewN k7 q8
  clear o67 o7 hlk k7
  generalize w7.drewN q8 = w8 at *
  have b8 := bel_call b2 k8
  by_cases hc2 : C2 = 0
  · subst hc2
    have h6 := H6.out rfl
    go_wp2_with (fail)
    refine (h6 _ _ _ i6 (HV.out.below b8).mw).mono ?_
    rintro e w9 ⟨rfl, hb9⟩
    have k9 := bel_call k8 hb9
    have b9 := bel_call b8 hb9
    clear h6
    by_cases hc1 : C1 = 0
    · subst hc1
      have h5 := H5.out rfl
      go_wp2_with (fail)
      refine (h5 _ (HV.out.below b9)).mono ?_
      rintro e w20 ⟨A20, c20, rfl, o20, hb20⟩
      go_wp2_with (fail)
      refine (l_likeInts A20 A2 L c20 c2 l _ _ _ HL.out (by omega) (own_isn o20 HL.out) ((HI.out.call k9).call hb20)).mono ?_
      rintro e w21 ⟨rfl, q21, rfl⟩
      go_wp2_with (fail)
      go_ret
      exact ⟨rfl, below_drewN (bel_call b9 hb20) _⟩
    · have e1 : (C1 == 0) = false := by rw [beq_eq_false_iff_ne]; exact hc1
      have e2 : (C1 != 0) = true := by rw [bne, e1]; rfl
      go_wp2_with (fail)
      go_ret
      exact ⟨rfl, b9⟩
  · have e3 : (C2 == 0) = false := by rw [beq_eq_false_iff_ne]; exact hc2
    by_cases hc1 : C1 = 0
    · subst hc1
      have h5 := H5.out rfl
      go_wp2_with (fail)
      refine (h5 _ (HV.out.below b8)).mono ?_
      rintro e w20 ⟨A20, c20, rfl, o20, hb20⟩
      go_wp2_with (fail)
      refine (l_likeInts A20 A2 L c20 c2 l _ _ _ HL.out (by omega) (own_isn o20 HL.out) ((HI.out.call k8).call hb20)).mono ?_
      rintro e w21 ⟨rfl, q21, rfl⟩
      go_wp2_with (fail)
      go_ret
      exact ⟨rfl, below_drewN (bel_call b8 hb20) _⟩
    · have e1 : (C1 == 0) = false := by rw [beq_eq_false_iff_ne]; exact hc1
      have e2 : (C1 != 0) = true := by rw [bne, e1]; rfl
      go_wp2_with (fail)
      go_ret
      exact ⟨rfl, b8⟩
end Go.Proofs.YtjfinniebijgbaaDoor

/- IsEvenName, on the side of the reference; the law. -/
import Derived.Test.YtkhadipfibllnaaA96
namespace Go.Proofs.Ytkhadipfibllnaa
set_option linter.unusedVariables false
set_option linter.unusedSimpArgs false
open Go.RowKit

set_option maxRecDepth 10000 in
set_option maxHeartbeats 4000000 in
theorem s_l22Even (n : Nat) (A : Option Addr) (L c : Nat) (l : List Int) (w : World) (hn : 1 ≤ n) (hn6 : n ≤ 6) (hL : L = l.length) (hl : L ≤ 1048576) (hk : InK n l) (hs : IS w w.heap.size A l) :
    Calls Try.prog 97 #[.agg #[.int .i64 n, .slice A L c]] w (fun e w' => ∃ A' c', e = .returned (.slice A' (evK n l L) c') ∧ Below w.heap.size w w') := by
  have hmi := mem_in hk
  have hml := memL_len n l
  have HL := Lib.hid hL
  have HK := Lib.hid hk
  have HMI := Lib.hid hmi
  have HML := Lib.hid hml
  clear hL hk hmi hml
  obtain ⟨i0, hi, hz0, hz1, hz2⟩ := info_parts infoI64
  have B0 := BK.new w 30 #[.int .i64 (n : Int), .slice A L c]
  have hb0 := (Below.refl w.heap.size w).alloc (Nat.le_refl _) (.cells #[.int .i64 (n : Int), .slice A L c] 30)
  have hs0 := hs.call hb0
  obtain ⟨f0, f1, _, _⟩ := B0.two
  go_enter Try.func97, Try.ntmps97
  go_wp2_with (go_at_call 102; refine (s_elements n A L c l _ hn hn6 HL.out hl HK.out hs0).mono ?_; rintro e w2 ⟨Am, cm, vs, rfl, hom, hrm, hb2⟩; rw [HML.out, ← HL.out] at hom ⊢)
  have hii := OwnII.ii hom hrm
  have hb2' := bel_call hb0 hb2
  have hB2 := B0.below hb2 (by simp)
  have hz2' := hb2'.size
  have hz3 : w.heap.size + 1 ≤ w2.heap.size := by have := hb2.size; simpa using this
  have hs2 := hs.call hb2'
  clear B0 hb0 hs0 hom hrm hb2 hs f0 f1
  go_loopw [4, 5] (fun u4 u5 wr => ∃ (k M : Nat) (xs : List Value), k ≤ L ∧ M ≤ k ∧ u5 = .int .i64 k ∧ wr.ownsRow w2.heap.size 2 1 u4 M xs ∧ Hid (M = evK n l k) ∧ Below w2.heap.size w2 wr) (fun _ u5 _ => L - (intOf u5).toNat)
  case atStart => exact ⟨0, 0, [], Nat.zero_le _, Nat.le_refl _, rfl, World.ownsRow_lit w2 #[] 0 (Nat.le_refl _) (by simp [maxLen]) rfl, rfl, (Below.refl _ _).alloc (Nat.le_refl _) _⟩
  case round =>
    obtain ⟨ws, rfl⟩ : ∃ ws : World, ws = wr := ⟨_, rfl⟩
    obtain ⟨k, M, xs, hk, hMk, rfl, hown, HM, hb⟩ := hrel
    obtain ⟨A4, c4, rfl, _⟩ := own_slice' hown
    have hsz := hb.size
    by_cases hlt : k < L
    · have hkl : k < l.length := by rw [← HL.out]; exact hlt
      obtain ⟨b, off, rfl, hbb, hcell⟩ := hii.at (k := k) (by rw [HML.out]; exact hkl)
      obtain ⟨A', c', e1, _, _, his⟩ := hcell k (by rw [HML.out]; exact hkl)
      have e1 := (hb.cell (p := ⟨b, off + k, none⟩) hbb).trans e1
      have hR := HMI.out k (by rw [HML.out]; exact hkl)
      rw [hR.1] at e1
      have his := (his.below hb).more hsz
      have hp := fun W hW => s_l21Sign A' n c' (gl (memL n l) k) W hn hn6 hR (IS.call his hW)
      have egl : gl (memL n l) k = wrL n (gt l k).toNat := by simp [gl, memL, gt, hkl]
      obtain ⟨br, offr, rfl, hbr, hcr⟩ := hs2.at hkl
      have hcr := hcr k hkl
      clear hcell
      by_cases hp1 : parN (gl (memL n l) k) = 1
      · have hy : evK n l (k + 1) = evK n l k + 1 := evK_yes hkl (by rw [← egl]; exact hp1)
        rw [hp1] at hp
        have HY := Lib.hid hy
        clear hy hp1 egl hR
        go_wp2_with (first
          | (go_at_call 134; refine (hp _ (Below.refl _ _)).mono ?_; rintro e w5 ⟨rfl, hb5⟩; have hb25 := hb.trans (hb5.mono hsz); have e3 := (hb25.cell (p := ⟨br, offr + k, none⟩) hbr).trans hcr; obtain ⟨g0, g1, _, _⟩ := (hB2.below hb25 (by omega)).two)
          | (at_builtin; refine wpList_append_src rfl (.tmp 21) (.tmp 27) 28 rfl w2.heap.size 2 i0 (.int .i64 0) 1 8 Try.underlying28 hi hz0 hz1 hz2 rfl (by omega) (.slice A4 M c4) M xs rfl (World.ownsRow.alloc (own_below hown hb5) _) (some ⟨w5.heap.size, 0, none⟩) 1 1 [.int .i64 (gt l k)] rfl rfl (one_src w5 _ _) (by intro h; cases h) (by intro u hu; simp at hu; subst hu; rfl) (by simp only [maxLen]; omega) (by omega) (by have := hb5.size; simp; omega) ?_; intro v7 w7 hown7 hg7 hat7))
        have hz5 := hb5.size
        have hz25 := hb25.size
        go_roundw
        case rel => exact ⟨k + 1, M + 1, _, by omega, by omega, by go_num, hown7, by unfold Hid; rw [HY.out, HM.out], (hb25.alloc (by omega) _).grown hg7 (by simp; omega) (fun g hg => (hown.lt g hg).1)⟩
        case measure => simp [intOf]; omega
      · have hy : evK n l (k + 1) = evK n l k := evK_no hkl (by rw [← egl]; exact hp1)
        have HY := Lib.hid hy
        have ht : (parN (gl (memL n l) k) == 1) = false := by rw [beq_eq_false_iff_ne]; exact hp1
        clear hy hp1 egl hR
        generalize parN (gl (memL n l) k) = pp at *
        go_wp2_with (go_at_call 134; refine (hp _ (Below.refl _ _)).mono ?_; rintro e w5 ⟨rfl, hb5⟩)
        go_roundw
        case rel => exact ⟨k + 1, M, xs, by omega, by omega, by go_num, own_below hown hb5, by unfold Hid; rw [HY.out]; exact HM.out, hb.trans (hb5.mono hsz)⟩
        case measure => simp [intOf]; omega
    · obtain rfl : k = L := by omega
      have hM := HM.out
      go_wp2_with (fail)
      go_ret
      exact ⟨A4, c4, by rw [← HM.out]; rfl, hb2'.trans (hb.mono hz2')⟩
set_option maxRecDepth 10000 in
set_option maxHeartbeats 4000000 in
theorem s_l24Even (i : Nat) (hi : i < 14) (s : ByteArray) (hs : s.toList = lbN i) (w : World) : Calls Try.prog 59 #[.string s] w (M (.bool (!(oddL (lbP i) (RK (lbP i) (lbG i))))) w) := by
  have hg := fun W => s_l24Group i hi s hs W
  have hin := RK_in i hi
  have hlen := (nv_code (s := s) (.inl ⟨i, hi, hs, rfl, rfl, rfl⟩)).2
  obtain ⟨p1, p2, _, _, _⟩ := lb_in i hi
  generalize RK (lbP i) (lbG i) = l at *
  generalize lbP i = p at *
  have hev := even_law p l
  have hle := evK_le p l l.length
  generalize hb : oddL p l = b at *
  generalize hL : l.length = L at *
  generalize hE : evK p l L = E at *
  have HL := Lib.hid hL.symm
  have HIN := Lib.hid hin
  have HE := Lib.hid hE
  clear hs hL hin hb hE
  have hcase : (E = L ∧ b = false) ∨ (E ≠ L ∧ b = true) := by
    cases b
    · left; exact ⟨by simpa using hev, rfl⟩
    · right; exact ⟨by simpa using hev, rfl⟩
  clear hev
  rcases hcase with ⟨rfl, rfl⟩ | ⟨hne, rfl⟩
  all_goals
    try have het : ((E : Int) == (L : Int)) = false := by rw [beq_eq_false_iff_ne]; omega
    go_enter Try.func59, Try.ntmps59
    go_wp2_with (go_at_call 54; refine (hg _).mono ?_; rintro e w1 ⟨v, rfl, ho, hb1⟩; obtain ⟨Ar, cr, rfl, _⟩ := own_slice' ho; rw [← HL.out] at ho; rw [← HL.out])
    have his := own_isn ho HL.out
    first
      | (have B3 := BK.new w1 30 #[.int .i64 (p : Int), .slice Ar E cr]
         obtain ⟨c0, c1, _, _⟩ := B3.two
         have hb1a := hb1.alloc hb1.size (.cells #[.int .i64 (p : Int), .slice Ar E cr] 30)
         have hisA := his.call ((Below.refl w1.heap.size w1).alloc (Nat.le_refl _) (.cells #[.int .i64 (p : Int), .slice Ar E cr] 30))
         have hseA := s_l22Even p Ar E cr l (w1.alloc (.cells #[.int .i64 (p : Int), .slice Ar E cr] 30)).drew p1 (by omega) HL.out (by omega) HIN.out hisA
         rw [HE.out] at hseA)
      | (have B3 := BK.new w1 30 #[.int .i64 (p : Int), .slice Ar L cr]
         obtain ⟨c0, c1, _, _⟩ := B3.two
         have hb1a := hb1.alloc hb1.size (.cells #[.int .i64 (p : Int), .slice Ar L cr] 30)
         have hisA := his.call ((Below.refl w1.heap.size w1).alloc (Nat.le_refl _) (.cells #[.int .i64 (p : Int), .slice Ar L cr] 30))
         have hseA := s_l22Even p Ar L cr l (w1.alloc (.cells #[.int .i64 (p : Int), .slice Ar L cr] 30)).drew p1 (by omega) HL.out (by omega) HIN.out hisA
         rw [HE.out] at hseA)
    go_wp2_with (fail)
    go_region_law
      (go_simp; go_at_call 97; refine hseA.mono ?_; rintro e w2 ⟨A', c', rfl, hb2⟩; obtain ⟨d0, d1, _, _⟩ := (B3.below (undrew (n := 1) hb2) (by simp)).two)
    all_goals
      go_wp2_with (fail)
      go_ret
      exact ⟨by first | rfl | (simp [Act.put]; done) | (simp [Act.put]; omega) | (simp [Act.put, het]), bel_call hb1a (undrew (n := 1) hb2)⟩
theorem s_IsEvenName (s : ByteArray) (i : Nat) (hi : i < 14) (hs : s.toList = lbN i) (w : World) : Calls Try.prog 27 #[.string s] w (MBI (!(oddL (lbP i) (RK (lbP i) (lbG i)))) 0 w) := by
  have hp := fun W => s_l24Points i hi s hs W
  have he := fun W => s_l24Even i hi s hs W
  have hp1 := (lb_in i hi).1
  clear hs
  generalize (!(oddL (lbP i) (RK (lbP i) (lbG i)))) = b at *
  generalize lbP i = p at *
  have hpz : ((p : Int) == 0) = false := by rw [beq_eq_false_iff_ne]; omega
  go_enter Try.func27, Try.ntmps27
  go_wp2_with (first
    | (go_at_call 53; refine (hp _).mono ?_; rintro e w1 ⟨rfl, hb1⟩)
    | (go_at_call 59; refine (he _).mono ?_; rintro e w2 ⟨rfl, hb2⟩))
  go_ret2
  exact ⟨rfl, bel_call hb1 hb2⟩
theorem s_IsEvenName_no (s : ByteArray) (h : NoN s) (w : World) : Calls Try.prog 27 #[.string s] w (MBI false 4 w) := by
  go_enter Try.func27, Try.ntmps27
  go_wp2_with (go_at_call 53; refine (s_l24Points_no s h _).mono ?_; rintro e w1 ⟨rfl, nq, rfl⟩)
  go_ret2
  exact ⟨rfl, below_drewN (Below.refl _ _) _⟩
set_option maxHeartbeats 1000000 in
theorem law_IsEvenName (s : ByteArray) (w : World) : Calls Try.prog 7 #[.string s] w (M (.bool true) w) := by
  have hall : ∃ b c, (∀ W, Calls Try.prog 27 #[.string s] W (MBI b c W)) ∧ (∀ W, Calls Try.prog 28 #[.string s] W (MBI b c W)) := by
    by_cases h : ∃ i, i < 14 ∧ s.toList = lbN i
    · obtain ⟨i, hi, hs⟩ := h
      exact ⟨_, _, fun W => s_IsEvenName s i hi hs W, fun W => i_IsEvenName s i hi hs W⟩
    · have hno : NoN s := fun i hi he => h ⟨i, hi, he⟩
      exact ⟨_, _, fun W => s_IsEvenName_no s hno W, fun W => i_IsEvenName_no s hno W⟩
  obtain ⟨b, code, h1, h2⟩ := hall
  by_cases hbig : 1048576 < s.size
  · go_enter Try.func7, Try.ntmps7
    go_wp2_with (fail)
    go_ret
    exact ⟨rfl, Below.refl _ _⟩
  · go_enter Try.func7, Try.ntmps7
    go_wp2_with (first
      | (go_at_call 27; refine (h1 _).mono ?_; rintro e w1 ⟨rfl, hb1⟩)
      | (go_at_call 28; refine (h2 _).mono ?_; rintro e w2 ⟨rfl, hb2⟩))
    go_ret
    exact ⟨rfl, bel_call hb1 hb2⟩
end Go.Proofs.Ytkhadipfibllnaa

/- The law FnLibrary: for every code. -/
import Derived.Test.YtkiglhaeiomohaaGreatA197
import Derived.Test.YtkiglhaeiomohaaGreatA195
import Derived.Test.YtkiglhaeiomohaaGreatA184
namespace Go.Proofs.YtkiglhaeiomohaaGreat
set_option linter.unusedVariables false
set_option linter.unusedSimpArgs false
open Go.RowKit

theorem i_EvenAny (s : ByteArray) : ∃ b c, (∀ W, Calls Tryz.prog 28 #[.string s] W (MBI b c W)) ∧ (∀ W, Calls Tryz.prog 29 #[.string s] W (MBI b c W)) := by
  by_cases h : ∃ i, i < 14 ∧ s.toList = lbN i
  · obtain ⟨i, hi, hs⟩ := h
    exact ⟨_, _, fun W => i_IsEvenName s i hi hs W, fun W => s_IsEvenName s i hi hs W⟩
  · have hno : NoN s := fun i hi he => h ⟨i, hi, he⟩
    exact ⟨_, _, fun W => i_IsEvenName_no s hno W, fun W => s_IsEvenName_no s hno W⟩
theorem nm_size {p : Int} {l : List Int} {nm : List UInt8} {code : Int} (h : NM p l nm code) : (¬ code = 0) ∨ (code = 0 ∧ ∃ k0, k0 < 14 ∧ nm = lbN k0 ∧ (RK (lbP k0) (lbG k0)).length = l.length) := by
  rcases h with ⟨_, _, rfl⟩ | ⟨_, _, _, _, _, rfl⟩ | ⟨_, _, _, _, _, _, rfl⟩ | ⟨n, k0, rest, _, _, _, _, hf, _, hk, rfl, rfl⟩
  · exact .inl (by decide)
  · exact .inl (by decide)
  · exact .inl (by decide)
  · refine .inr ⟨rfl, k0, hk, rfl, ?_⟩
    have h1 : k0 ∈ (nmK n 14).filter (nmQI n l) := by rw [hf]; simp
    have h2 := (List.mem_filter.1 h1).2
    unfold nmQI at h2
    rw [Bool.and_eq_true] at h2
    exact (of_decide_eq_true h2.1).symm
theorem tn_own (i : Nat) (hi : i < 14) : tnC (lbP i : Nat) = 0 ∧ ∃ j, j < (tnL (lbP i : Nat)).length ∧ (tnL (lbP i : Nat)).getD j 0 = i := by
  have h : ∀ i : Fin 14, tnC (lbP i.val : Nat) = 0 ∧ ∃ j : Fin 14, j.val < (tnL (lbP i.val : Nat)).length ∧ (tnL (lbP i.val : Nat)).getD j.val 0 = i.val := by decide +kernel
  obtain ⟨h1, j, h2, h3⟩ := h ⟨i, hi⟩
  exact ⟨h1, j, h2, h3⟩
theorem bs_at {bs : List ByteArray} {is : List Nat} (h : bs.map (·.toList) = is.map lbN) {k : Nat} (hk : k < is.length) : k < bs.length ∧ (gs bs k).toList = lbN (is.getD k 0) := by
  have hl : bs.length = is.length := by have := congrArg List.length h; simpa using this
  have h1 : (bs.map (·.toList))[k]? = (is.map lbN)[k]? := by rw [h]
  have hk1 : k < bs.length := by omega
  rw [List.getElem?_map, List.getElem?_map, List.getElem?_eq_getElem hk1, List.getElem?_eq_getElem hk] at h1
  exact ⟨hk1, by simpa [gs, List.getElem?_eq_getElem hk1, List.getElem?_eq_getElem hk] using h1⟩
set_option maxRecDepth 20000 in
set_option maxHeartbeats 4000000 in
theorem law_Library (A : Option Addr) (n c : Nat) (w : World) (hm : n ≤ maxLen) (hs : YB w w.heap.size A n) :
    Calls Tryz.prog 4 #[.slice A n c] w (M (.bool true) w) := by
  unfold maxLen at hm
  by_cases hbig : 4096 < n
  · go_enter Tryz.func4, Tryz.ntmps4
    go_wp2_with (go_at_call 5; refine (l_bigYes A n c _ hbig).mono ?_; rintro e w1 ⟨rfl, q1, rfl⟩)
    go_ret
    exact ⟨rfl, below_drewN (Below.refl _ _) _⟩
  have hn : n ≤ 4096 := by omega
  clear hm hbig
  have hd1 := fun W h => s_DrawNameOf A n c W hn h
  have hd2 := fun W h => s_DrawGroupNamed A n c W hn h
  have hd3 := fun W h => s_DrawTransitiveNames A n c W hn h
  go_enter Tryz.func4, Tryz.ntmps4
  go_wp2_with (go_at_call 5; refine (l_bigNo A n c _ hn).mono ?_; rintro e w1 ⟨rfl, q1, rfl⟩)
  have hs1 := hs.call (below_drewN (Below.refl w.heap.size w) q1)
  have b1 := below_drewN (Below.refl w.heap.size w) q1
  generalize w.drewN q1 = w1 at *
  refine (hd1 _ hs1).mono ?_
  rintro e w2 ⟨p, A2, L, c2, l, rfl, hL, hl, hi2, hb2⟩
  have b2 := bel_call b1 hb2
  have G2 := BK.new w2 41 #[.int .i64 p, .slice A2 L c2]
  have hba := (Below.refl w2.heap.size w2).alloc (Nat.le_refl _) (.cells #[.int .i64 p, .slice A2 L c2] 41)
  have b2 := bel_call b2 hba
  have hi2 := hi2.call hba
  obtain ⟨nm, code, hnm⟩ := NM_all p l
  have hI := fun W h => i_NameOf p A2 L c2 l nm code W hL (by omega) h hnm
  have hS := fun W h => s_NameOf p A2 L c2 l nm code W hL (by omega) h hnm
  have hNM := Lib.hid (nm_size hnm)
  have HL := Lib.hid hL
  obtain ⟨d0, d1, _, _⟩ := G2.two
  clear hnm hL hb2 hba b1 hs1 hd1
  go_wp2_with (fail)
  have hgz : w2.heap.size < (w2.alloc (.cells #[.int .i64 p, .slice A2 L c2] 41)).heap.size := by simp
  generalize w2.alloc (.cells #[.int .i64 p, .slice A2 L c2] 41) = w2a at *
  refine (hI _ hi2).mono ?_
  rintro e w3 ⟨sb, rfl, hsb, hb3⟩
  have b3 := bel_call b2 hb3
  have G3 := G2.below hb3 hgz
  have hi3 := hi2.call hb3
  obtain ⟨d0', d1', _, _⟩ := G3.two
  clear hb3 b2 hI hi2 d0 d1
  go_wp2_with (fail)
  refine (hS _ hi3).mono ?_
  rintro e w4 ⟨mb, rfl, hmb, hb4⟩
  have b4 := bel_call b3 hb4
  have G4 := G3.below hb4 G3.lt
  have hst : (sb.toList == mb.toList) = true := by rw [hsb, hmb]; simp
  have hst' : (sb.toList != mb.toList) = false := by rw [bne, hst]; rfl
  have HSB := Lib.hid hsb
  clear hb4 b3 hS hi3 d0' d1' G2 G3 hsb hmb
  go_wp2_with (fail)
  refine (hd2 _ (hs.call b4)).mono ?_
  rintro e w5 ⟨nb, rfl, hb5⟩
  have b5 := bel_call b4 hb5
  have G5 := G4.below hb5 G4.lt
  obtain ⟨pn, ln, cn, hnv⟩ := nv_ex nb
  obtain ⟨ev, ec, hev1, hev2⟩ := i_EvenAny nb
  have hlen := (nv_code hnv).2
  have hgi := fun W => i_GroupNamed nb pn ln cn hnv W
  have hgs := fun W => s_GroupNamed nb pn ln cn hnv W
  have hzi := fun W => i_SizeOf nb pn ln cn hnv W
  have hzs := fun W => s_SizeOf nb pn ln cn hnv W
  unfold GRC at hgi hgs
  have HNV := Lib.hid hnv
  generalize hM : ln.length = m at *
  have HM := Lib.hid hM.symm
  clear hnv hM hb5 b4 G4 hd2
  go_wp2_with (fail)
  refine (hgi _).mono ?_
  rintro e w6 ⟨v6, rfl, o6, hb6⟩
  obtain ⟨A6, c6, rfl, _⟩ := own_slice' o6
  have hba := (Below.refl w6.heap.size w6).alloc (Nat.le_refl _) (.cells #[.int .i64 pn, .slice A6 m c6] 41)
  have H6 := BK.new w6 41 #[.int .i64 pn, .slice A6 m c6]
  have hb6a := bel_call hb6 hba
  have b6 := bel_call b5 hb6a
  have G6 := G5.below hb6a G5.lt
  have o6 := own_below o6 hba
  clear hb6 hb6a hba b5 G5 hgi
  go_wp2_with (fail)
  generalize w6.alloc (.cells #[.int .i64 pn, .slice A6 m c6] 41) = w6a at *
  refine (hgs _).mono ?_
  rintro e w7 ⟨v7, rfl, o7, hb7⟩
  obtain ⟨A7, c7, rfl, _⟩ := own_slice' o7
  have hba := (Below.refl w7.heap.size w7).alloc (Nat.le_refl _) (.cells #[.int .i64 pn, .slice A7 m c7] 41)
  have K7 := BK.new w7 41 #[.int .i64 pn, .slice A7 m c7]
  have hb7a := bel_call hb7 hba
  have b7 := bel_call b6 hb7a
  have G7 := G6.below hb7a G6.lt
  have H7 := H6.below hb7a H6.lt
  have o67 := own_below o6 hb7a
  have o7 := own_below o7 hba
  clear hb7 hb7a hba b6 G6 H6 hgs o6
  go_wp2_with (fail)
  generalize w7.alloc (.cells #[.int .i64 pn, .slice A7 m c7] 41) = w7a at *
  refine (hzi _).mono ?_
  rintro e w8 ⟨rfl, hb8⟩
  go_wp2_with (fail)
  refine (hzs _).mono ?_
  rintro e w9 ⟨rfl, hb9⟩
  have hb79 := bel_call hb8 hb9
  clear hb8 hb9 hzs
  go_wp2_with (fail)
  refine (hev1 _).mono ?_
  rintro e w10 ⟨rfl, hb10⟩
  go_wp2_with (fail)
  refine (hev2 _).mono ?_
  rintro e w11 ⟨rfl, hb11⟩
  have hb711 := bel_call (bel_call hb79 hb10) hb11
  have b11 := bel_call b7 hb711
  clear hb10 hb11 hb79 hev1 hev2
  go_wp2_with (fail)
  refine (hd3 _ (hs.call b11)).mono ?_
  rintro e w12 ⟨k, rfl, hb12⟩
  have hb712 := bel_call hb711 hb12
  have hT1 := fun W => i_TransitiveNames k W
  have hT2 := fun W => s_TransitiveNames k W
  have htl := tnL_len k
  unfold OSC at hT1 hT2
  generalize tnL k = is at *
  generalize tnC k = ct at *
  clear hb12 hb711 b11 hd3
  go_wp2_with (fail)
  refine (hT1 _).mono ?_
  rintro e w13 ⟨A13, c13, rfl, ⟨bs1, o13, hs13⟩, hb13⟩
  have hb713 := bel_call hb712 hb13
  go_wp2_with (fail)
  refine (hT2 _).mono ?_
  rintro e w14 ⟨A14, c14, rfl, ⟨bs2, o14, hs14⟩, hb14⟩
  have hb714 := bel_call hb713 hb14
  have o13 := own_below o13 hb14
  have b14 := bel_call b7 hb714
  have G14 := G7.below hb714 G7.lt
  have H14 := H7.below hb714 H7.lt
  have K14 := K7.below hb714 K7.lt
  have o6' := own_below o67 hb714
  have o7' := own_below o7 hb714
  have n1 : is.length = bs1.length := by have := congrArg List.length hs13; simp at this; omega
  have n2 : is.length = bs2.length := by have := congrArg List.length hs14; simp at this; omega
  have H12 := Lib.hid (hs13.trans hs14.symm)
  generalize hmt : is.length = mt at *
  have N1 := Lib.hid n1
  have N2 := Lib.hid n2
  have hlk := fun W h1 h2 => l_likeTexts A13 A14 mt c13 c14 bs1 bs2 W w14.heap.size w14.heap.size N1.out N2.out (by omega) h1 h2 H12.out
  have i1 := own_ib o13 N1.out
  have i2 := own_ib o14 N2.out
  have hlg := fun W h h' => l_likeGroups pn A6 A7 m c6 c7 ln W HM.out (by omega) h h'
  have j1 := own_isn o6' HM.out
  have j2 := own_isn o7' HM.out
  obtain ⟨x0, x1, _, _⟩ := H14.two
  obtain ⟨y0, y1, _, _⟩ := K14.two
  clear hb712 hb713 hb13 hb14 hT1 hT2 hs13 hs14 n1 n2 hmt o13 o14 G7 H7 K7 o67 o7 hb714 b7
  -- what stands behind the tests of the name
  have hend : ∀ (W : World), Below w14.heap.size w14 W → BK W w2.heap.size 41 #[.int .i64 p, .slice A2 L c2] ∧ Below w.heap.size w W := fun W h => ⟨G14.below h G14.lt, bel_call b14 h⟩
  have HEND := Lib.hid hend
  have hsz : code = 0 → ∃ z : Nat, z = L ∧ ∀ W, Calls Tryz.prog 15 #[.string sb] W (M2 (z : Nat) 0 W) := fun hc => by
    rcases hNM.out with h | ⟨_, k0, hk0, hnm0, hlen0⟩
    · exact absurd hc h
    · exact ⟨_, hlen0.trans HL.out.symm, fun W => i_SizeOf sb _ _ _ (.inl ⟨k0, hk0, by rw [HSB.out, hnm0], rfl, rfl, rfl⟩) W⟩
  have HSZ := Lib.hid hsz
  clear hend hsz hNM HSB G14 b14
  rcases HNV.out with ⟨i, hi, hsi, rfl, rfl, rfl⟩ | ⟨_, rfl, rfl, rfl⟩
  · obtain ⟨hg, ht⟩ := lib_grp i hi
    have htr := fun W h => i_IsTransitive (lbP i) A6 m c6 (RK (lbP i) (lbG i)) W hg ht HM.out (by omega) h
    have htn := fun W => i_TransitiveNames (lbP i : Nat) W
    have htl2 := tnL_len (lbP i : Nat)
    obtain ⟨htc, j, hj1, hj2⟩ := tn_own i hi
    unfold OSC at htn
    rw [htc] at htn
    generalize RK (lbP i) (lbG i) = R at *
    generalize tnL (lbP i : Nat) = ts at *
    generalize lbP i = P at *
    have hj3 : ∀ {bs : List ByteArray}, bs.map (·.toList) = ts.map lbN → j < bs.length ∧ (gs bs j).toList = nb.toList := fun h => by
      obtain ⟨h1, h2⟩ := bs_at h hj1
      exact ⟨h1, by rw [h2, hj2, hsi]⟩
    have HJ3 := @hj3
    generalize hT : ts.length = mt3 at *
    have HT := Lib.hid hT.symm
    clear hg ht htc hj1 hj2 hsi hj3 hT hzi HNV
    have hmm : ((m : Int) != (m : Int)) = false := by simp
    go_wp2_with (first
      | (go_at_call 33; refine (hlg _ j1 j2).mono ?_; rintro e w15 ⟨rfl, hb15⟩)
      | (go_at_call 14; refine (hlk _ (i1.below hb15) (i2.below hb15)).mono ?_; rintro e w16 ⟨rfl, q16, rfl⟩; obtain ⟨z0, z1, _, _⟩ := (H14.below hb15 H14.lt).two))
    refine (htr _ ((j1.call hb15).drewN q16)).mono ?_
    rintro e w17 ⟨rfl, hb17⟩
    have hb17 := undrew hb17
    have hb1517 := bel_call hb15 hb17
    have H17 := H14.below hb1517 H14.lt
    obtain ⟨z2, z3, _, _⟩ := H17.two
    clear z0 z1 hb15 hb17 htr
    go_wp2_with (fail)
    refine (htn _).mono ?_
    rintro e w18 ⟨A18, c18, rfl, ⟨bs3, o18, hs18⟩, hb18⟩
    obtain ⟨hjl, hje⟩ := HJ3 hs18
    have n3 : mt3 = bs3.length := by have := congrArg List.length hs18; have h2 := HT.out; simp at this; omega
    have N3 := Lib.hid n3
    have i3 := own_ib o18 n3
    have hht := fun W h => l_hasText A18 mt3 c18 j bs3 nb W w18.heap.size N3.out (by omega) h (by rw [N3.out]; exact hjl) hje
    have H18 := H17.below hb18 H17.lt
    obtain ⟨z4, z5, _, _⟩ := H18.two
    have hb1518 := bel_call hb1517 hb18
    obtain ⟨G18, b18⟩ := HEND.out _ hb1518
    obtain ⟨g0, g1, _, _⟩ := G18.two
    clear z2 z3 hb18 hb1517 hs18 htn n3 hje hjl H17 o18
    by_cases hc : code = 0
    · obtain ⟨z, hz, hszc⟩ := HSZ.out hc
      subst hc
      subst hz
      go_wp2_with (first
        | (go_at_call 21; refine (hht _ i3).mono ?_; rintro e w19 ⟨rfl, q19, rfl⟩)
        | (go_at_call 15; refine (hszc _).mono ?_; rintro e w20 ⟨rfl, hb20⟩; have hb20 := undrew hb20; have G20 := G18.below hb20 G18.lt; obtain ⟨g2, g3, _, _⟩ := G20.two))
      go_ret
      exact ⟨by simp, bel_call b18 hb20⟩
    · have hcz : (code != 0) = true := by rw [bne_iff_ne]; exact hc
      clear hc
      go_wp2_with (first
        | (go_at_call 21; refine (hht _ i3).mono ?_; rintro e w19 ⟨rfl, q19, rfl⟩))
      go_ret
      exact ⟨rfl, below_drewN b18 _⟩
  · by_cases hc : code = 0
    · obtain ⟨z, hz, hszc⟩ := HSZ.out hc
      subst hc
      subst hz
      go_wp2_with (first
        | (go_at_call 33; refine (hlg _ j1 j2).mono ?_; rintro e w15 ⟨rfl, hb15⟩)
        | (go_at_call 14; refine (hlk _ (i1.below hb15) (i2.below hb15)).mono ?_; rintro e w16 ⟨rfl, q16, rfl⟩)
        | (go_at_call 15; refine (hszc _).mono ?_; rintro e w20 ⟨rfl, hb20⟩; have hb20 := undrew hb20; obtain ⟨G20, b20⟩ := HEND.out _ (bel_call hb15 hb20); obtain ⟨g2, g3, _, _⟩ := G20.two))
      go_ret
      exact ⟨by simp, b20⟩
    · have hcz : (code != 0) = true := by rw [bne_iff_ne]; exact hc
      clear hc
      go_wp2_with (first
        | (go_at_call 33; refine (hlg _ j1 j2).mono ?_; rintro e w15 ⟨rfl, hb15⟩)
        | (go_at_call 14; refine (hlk _ (i1.below hb15) (i2.below hb15)).mono ?_; rintro e w16 ⟨rfl, q16, rfl⟩))
      go_ret
      exact ⟨rfl, below_drewN (HEND.out _ hb15).2 _⟩
end Go.Proofs.YtkiglhaeiomohaaGreat

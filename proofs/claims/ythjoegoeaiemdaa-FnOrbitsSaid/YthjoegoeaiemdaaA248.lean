/- The law FnOrbits: for every code. -/
import Derived.Test.YthjoegoeaiemdaaA247
import Derived.Test.YthjoegoeaiemdaaA231
import Derived.Test.YthjoegoeaiemdaaA176
namespace Go.Proofs.Ythjoegoeaiemdaa
set_option linter.unusedVariables false
set_option linter.unusedSimpArgs false
open Go.RowKit

theorem orbO {p x : Int} {l : List Int} (h : mvL p l [x] = 0) : (ofA p l x).length * (sbA p l x).length = l.length ∧ x ∈ ofA p l x := by
  obtain ⟨n, q, rfl, rfl, hq, hg⟩ := mv_ok h
  unfold ofA sbA
  rw [if_pos h, if_pos h, Int.toNat_natCast, Int.toNat_natCast]
  exact ⟨orb_stab hg hq, orL_mem hg hq⟩
theorem of_le (p x : Int) (l : List Int) : (ofA p l x).length ≤ 6 := by
  unfold ofA
  split
  · rename_i h
    obtain ⟨n, q, rfl, rfl, hq, hg⟩ := mv_ok h
    obtain ⟨n', hn', h1, h2, h3, h4, hk⟩ := grpB_t hg
    have := orL_len (n := n) (p := q) (l := l) (by obtain rfl : n = n' := by omega
                                                   exact hk) hq
    rw [Int.toNat_natCast, Int.toNat_natCast]
    omega
  · simp
theorem sb_le (p x : Int) (l : List Int) : (sbA p l x).length ≤ l.length := by
  unfold sbA
  split
  · exact List.length_filter_le _ _
  · simp
theorem fp_le (q : Int) (m : List Int) : (fpA q m).length ≤ 7 := by
  unfold fpA
  cases h : grpB q m
  · simp
  · obtain ⟨n, rfl, _, h2, _⟩ := grpB_t h
    rw [if_pos rfl, fpS_len, Int.toNat_natCast]
    omega
theorem orbF {q : Int} {m : List Int} (h : mvC q m = 0) : (fpA q m).length ≤ 7 ∧ (∀ k, k < (fpA q m).length → 0 ≤ gt (fpA q m) k ∧ gt (fpA q m) k ≤ 720) ∧ sm1 (fpA q m) (fpA q m).length = (m.length : Int) ∧ sm2 (fpA q m) (fpA q m).length = ((ooL q m).length : Int) * (m.length : Int) ∧ coA q m = ((ooL q m).length : Int) ∧ m.length ≤ 720 := by
  have hg : grpB q m = true := by
    cases hg : grpB q m
    · unfold mvC at h; rw [hg] at h; simp at h
    · rfl
  obtain ⟨n, rfl, h1, h2, h3, h4, hk⟩ := grpB_t hg
  have e1 : fpA n m = fpS n (memL n m) := by unfold fpA; rw [hg, Int.toNat_natCast]; rfl
  have e2 : ooL n m = obL n m n := by unfold ooL; rw [hg, Int.toNat_natCast]; rfl
  have e3 : coA n m = ((obL n m n).length : Nat) := by unfold coA; rw [hg, Int.toNat_natCast]; rfl
  rw [e1, e2, e3, fpS_len]
  refine ⟨by omega, fun k hk' => ?_, fp_sum, fp_burn hg, rfl, h4⟩
  have := fpS_bd (memL n m) hk'
  rw [memL_len] at this
  omega
theorem l_sumV (A : Option Addr) (n c : Nat) (l : List Int) (w : World) (B : Nat) (hn : n = l.length) (hl : n ≤ 7) (hb : ∀ k, k < n → 0 ≤ gt l k ∧ gt l k ≤ 720) (hs : IS w B A l) {r : Int} (h : sm1 l n = r) :
    Calls Try.prog 23 #[.slice A n c] w (Q (.int .i64 r) w) := by rw [← h]; exact l_sum A n c l w B hn hl hb hs
set_option maxRecDepth 20000 in
set_option maxHeartbeats 4000000 in
theorem law_Orbits (A : Option Addr) (n c : Nat) (w : World) (hm : n ≤ maxLen) (hs : YB w w.heap.size A n) :
    Calls Try.prog 3 #[.slice A n c] w (M (.bool true) w) := by
  unfold maxLen at hm
  by_cases hbig : 4096 < n
  · go_enter Try.func3, Try.ntmps3
    go_wp2_with (go_at_call 7; refine (l_bigYes A n c _ hbig).mono ?_; rintro e w1 ⟨rfl, q1, rfl⟩)
    go_ret
    exact ⟨rfl, below_drewN (Below.refl _ _) _⟩
  have hn : n ≤ 4096 := by omega
  clear hm hbig
  have hd1 := fun W h => s_DrawOrbitOf A n c W hn h
  have hd2 := fun W h => s_DrawFixedPoints A n c W hn h
  go_enter Try.func3, Try.ntmps3
  go_wp2_with (go_at_call 7; refine (l_bigNo A n c _ hn).mono ?_; rintro e w1 ⟨rfl, q1, rfl⟩)
  have b1 := below_drewN (Below.refl w.heap.size w) q1
  generalize w.drewN q1 = w1 at *
  refine (hd1 _ (hs.call b1)).mono ?_
  rintro e w2 ⟨p, A2, L, c2, l, x, rfl, hL, hl, IL, hb2⟩
  have b2 := bel_call b1 hb2
  have h1 := fun W h => i_OrbitOf p x A2 L c2 l W hL (by omega) h
  have h2 := fun W h => s_OrbitOf p x A2 L c2 l W hL (by omega) h
  have h3 := fun W h => i_StabilizerOf p x A2 L c2 l W hL (by omega) h
  have h4 := fun W h => s_StabilizerOf p x A2 L c2 l W hL (by omega) h
  have hO := Lib.hid (fun h => orbO (p := p) (x := x) (l := l) h)
  have hol := of_le p x l
  have hsl := sb_le p x l
  rw [← hL] at hO hsl
  generalize ofA p l x = OF at *
  generalize sbA p l x = SB at *
  generalize sbP p l x = SP at *
  generalize mvL p l [x] = C1 at *
  generalize hLO' : OF.length = LO at *
  generalize hLS' : SB.length = LS at *
  have HLO := Lib.hid hLO'.symm
  have HLS := Lib.hid hLS'.symm
  clear hLO' hLS' hL hb2 b1 hd1
  have Q := BK.new w2 26 #[.int .i64 p, .slice A2 L c2]
  have hbx := (Below.refl w2.heap.size w2).alloc (Nat.le_refl _) (.cells #[.int .i64 p, .slice A2 L c2] 26)
  have b3 := bel_call b2 hbx
  clear hbx
  have IL3 := IL.call (show Below w2.heap.size w2 (w2.alloc (.cells #[.int .i64 p, .slice A2 L c2] 26)) from (Below.refl _ _).alloc (Nat.le_refl _) _)
  clear IL
  have IL := IL3
  clear IL3
  obtain ⟨Q0, Q1, _, _⟩ := Q.two
  go_wp2_with (fail)
  generalize w2.alloc (.cells #[.int .i64 p, .slice A2 L c2] 26) = w3 at *
  refine (h1 _ IL).mono ?_
  rintro e w4 ⟨A4, c4, rfl, o4, hb4⟩
  have b4 := bel_call b3 hb4
  have Q := Q.of_below hb4
  rw [← HLO.out] at o4 ⊢
  have IL := IL.call hb4
  clear Q0 Q1
  obtain ⟨Q0, Q1, _, _⟩ := Q.two
  go_wp2_with (fail)
  refine (h2 _ IL).mono ?_
  rintro e w5 ⟨A5, c5, rfl, o5, hb5⟩
  have b5 := bel_call b4 hb5
  have Q := Q.of_below hb5
  have o4 := own_below o4 hb5
  rw [← HLO.out] at o5 ⊢
  have IL := IL.call hb5
  clear Q0 Q1
  obtain ⟨Q0, Q1, _, _⟩ := Q.two
  go_wp2_with (fail)
  refine (h3 _ IL).mono ?_
  rintro e w6 ⟨v6, rfl, o6, hb6⟩
  have b6 := bel_call b5 hb6
  have Q := Q.of_below hb6
  have o4 := own_below o4 hb6
  have o5 := own_below o5 hb6
  obtain ⟨A6, c6, rfl, _⟩ := own_slice' o6
  rw [← HLS.out] at o6 ⊢
  have IL := IL.call hb6
  clear Q0 Q1
  have B9 := BK.new w6 26 #[.int .i64 SP, .slice A6 LS c6]
  have hbx := (Below.refl w6.heap.size w6).alloc (Nat.le_refl _) (.cells #[.int .i64 SP, .slice A6 LS c6] 26)
  have b7 := bel_call b6 hbx
  have Q := Q.of_below hbx
  have o4 := own_below o4 hbx
  have o5 := own_below o5 hbx
  have o6 := own_below o6 hbx
  clear hbx
  have IL := IL.call (show Below w6.heap.size w6 (w6.alloc (.cells #[.int .i64 SP, .slice A6 LS c6] 26)) from (Below.refl _ _).alloc (Nat.le_refl _) _)
  obtain ⟨Q0, Q1, _, _⟩ := Q.two
  go_wp2_with (fail)
  generalize w6.alloc (.cells #[.int .i64 SP, .slice A6 LS c6] 26) = w7 at *
  refine (h4 _ IL).mono ?_
  rintro e w8 ⟨v8, rfl, o8, hb8⟩
  have b8 := bel_call b7 hb8
  have Q := Q.of_below hb8
  have B9 := B9.of_below hb8
  have o4 := own_below o4 hb8
  have o5 := own_below o5 hb8
  have o6 := own_below o6 hb8
  obtain ⟨A8, c8, rfl, _⟩ := own_slice' o8
  rw [← HLS.out] at o8 ⊢
  clear Q0 Q1
  have B11 := BK.new w8 26 #[.int .i64 SP, .slice A8 LS c8]
  have hbx := (Below.refl w8.heap.size w8).alloc (Nat.le_refl _) (.cells #[.int .i64 SP, .slice A8 LS c8] 26)
  have b9 := bel_call b8 hbx
  have Q := Q.of_below hbx
  have B9 := B9.of_below hbx
  have o4 := own_below o4 hbx
  have o5 := own_below o5 hbx
  have o6 := own_below o6 hbx
  have o8 := own_below o8 hbx
  clear hbx
  go_wp2_with (fail)
  generalize w8.alloc (.cells #[.int .i64 SP, .slice A8 LS c8] 26) = w9 at *
  refine (hd2 _ (hs.call b9)).mono ?_
  rintro e w10 ⟨q, A10, M, c10, m, rfl, hM, hMl, IM, hb10⟩
  have b10 := bel_call b9 hb10
  have Q := Q.of_below hb10
  have B9 := B9.of_below hb10
  have B11 := B11.of_below hb10
  have o4 := own_below o4 hb10
  have o5 := own_below o5 hb10
  have o6 := own_below o6 hb10
  have o8 := own_below o8 hb10
  have k1 := fun W h => i_FixedPoints q A10 M c10 m W hM (by omega) h
  have k2 := fun W h => s_FixedPoints q A10 M c10 m W hM (by omega) h
  have k3 := fun W h => i_CountOrbits q A10 M c10 m W hM (by omega) h
  have k4 := fun W h => s_CountOrbits q A10 M c10 m W hM (by omega) h
  have k5 := fun W h => i_OrbitsOf q A10 M c10 m W hM (by omega) h
  have k6 := fun W h => s_OrbitsOf q A10 M c10 m W hM (by omega) h
  have hF := Lib.hid (fun h => orbF (q := q) (m := m) h)
  have hlf := fp_le q m
  have hos := ooL_small q m
  rw [← hM] at hF
  generalize fpA q m = FP at *
  generalize coA q m = CO at *
  generalize ooL q m = OO at *
  generalize mvC q m = C2 at *
  generalize hLF' : FP.length = LF at *
  have HLF := Lib.hid hLF'.symm
  clear hLF' hM hd2
  have Q2 := BK.new w10 26 #[.int .i64 q, .slice A10 M c10]
  have hbx := (Below.refl w10.heap.size w10).alloc (Nat.le_refl _) (.cells #[.int .i64 q, .slice A10 M c10] 26)
  have b11 := bel_call b10 hbx
  have Q := Q.of_below hbx
  have B9 := B9.of_below hbx
  have B11 := B11.of_below hbx
  have o4 := own_below o4 hbx
  have o5 := own_below o5 hbx
  have o6 := own_below o6 hbx
  have o8 := own_below o8 hbx
  clear hbx
  have IM := IM.call (show Below w10.heap.size w10 (w10.alloc (.cells #[.int .i64 q, .slice A10 M c10] 26)) from (Below.refl _ _).alloc (Nat.le_refl _) _)
  obtain ⟨Q20, Q21, _, _⟩ := Q2.two
  go_wp2_with (fail)
  generalize w10.alloc (.cells #[.int .i64 q, .slice A10 M c10] 26) = w11 at *
  refine (k1 _ IM).mono ?_
  rintro e w12 ⟨A12, c12, rfl, o12, hb12⟩
  have b12 := bel_call b11 hb12
  have Q := Q.of_below hb12
  have B9 := B9.of_below hb12
  have B11 := B11.of_below hb12
  have Q2 := Q2.of_below hb12
  have o4 := own_below o4 hb12
  have o5 := own_below o5 hb12
  have o6 := own_below o6 hb12
  have o8 := own_below o8 hb12
  rw [← HLF.out] at o12 ⊢
  have IM := IM.call hb12
  clear Q20 Q21
  obtain ⟨Q20, Q21, _, _⟩ := Q2.two
  go_wp2_with (fail)
  refine (k2 _ IM).mono ?_
  rintro e w13 ⟨A13, c13, rfl, o13, hb13⟩
  have b13 := bel_call b12 hb13
  have Q := Q.of_below hb13
  have B9 := B9.of_below hb13
  have B11 := B11.of_below hb13
  have Q2 := Q2.of_below hb13
  have o4 := own_below o4 hb13
  have o5 := own_below o5 hb13
  have o6 := own_below o6 hb13
  have o8 := own_below o8 hb13
  have o12 := own_below o12 hb13
  rw [← HLF.out] at o13 ⊢
  have IM := IM.call hb13
  clear Q20 Q21
  obtain ⟨Q20, Q21, _, _⟩ := Q2.two
  go_wp2_with (fail)
  refine (k3 _ IM).mono ?_
  rintro e w14 ⟨rfl, hb14⟩
  have b14 := bel_call b13 hb14
  have Q := Q.of_below hb14
  have B9 := B9.of_below hb14
  have B11 := B11.of_below hb14
  have Q2 := Q2.of_below hb14
  have o4 := own_below o4 hb14
  have o5 := own_below o5 hb14
  have o6 := own_below o6 hb14
  have o8 := own_below o8 hb14
  have o12 := own_below o12 hb14
  have o13 := own_below o13 hb14
  have IM := IM.call hb14
  clear Q20 Q21
  obtain ⟨Q20, Q21, _, _⟩ := Q2.two
  go_wp2_with (fail)
  refine (k4 _ IM).mono ?_
  rintro e w15 ⟨rfl, hb15⟩
  have b15 := bel_call b14 hb15
  have Q := Q.of_below hb15
  have B9 := B9.of_below hb15
  have B11 := B11.of_below hb15
  have Q2 := Q2.of_below hb15
  have o4 := own_below o4 hb15
  have o5 := own_below o5 hb15
  have o6 := own_below o6 hb15
  have o8 := own_below o8 hb15
  have o12 := own_below o12 hb15
  have o13 := own_below o13 hb15
  have IM := IM.call hb15
  clear Q20 Q21
  obtain ⟨Q20, Q21, _, _⟩ := Q2.two
  go_wp2_with (fail)
  refine (k5 _ IM).mono ?_
  rintro e w16 ⟨A16, n16, c16, vs16, hn16, rfl, o16, r16, hb16⟩
  have b16 := bel_call b15 hb16
  have Q := Q.of_below hb16
  have B9 := B9.of_below hb16
  have B11 := B11.of_below hb16
  have Q2 := Q2.of_below hb16
  have o4 := own_below o4 hb16
  have o5 := own_below o5 hb16
  have o6 := own_below o6 hb16
  have o8 := own_below o8 hb16
  have o12 := own_below o12 hb16
  have o13 := own_below o13 hb16
  have HN16 := Lib.hid hn16
  clear hn16
  have IM := IM.call hb16
  clear Q20 Q21
  obtain ⟨Q20, Q21, _, _⟩ := Q2.two
  go_wp2_with (fail)
  refine (k6 _ IM).mono ?_
  rintro e w17 ⟨A17, n17, c17, vs17, hn17, rfl, o17, r17, hb17⟩
  have b17 := bel_call b16 hb17
  have Q := Q.of_below hb17
  have B9 := B9.of_below hb17
  have B11 := B11.of_below hb17
  have Q2 := Q2.of_below hb17
  have o4 := own_below o4 hb17
  have o5 := own_below o5 hb17
  have o6 := own_below o6 hb17
  have o8 := own_below o8 hb17
  have o12 := own_below o12 hb17
  have o13 := own_below o13 hb17
  have o16 := own_below o16 hb17
  have r16 := RowsO.below r16 hb17
  have e17 : n17 = n16 := by rw [hn17, HN16.out]
  subst e17
  clear hn17
  clear Q20 Q21
  have lk1 := l_likeInts A4 A5 LO c4 c5 OF w17 _ _ HLO.out (by omega) (own_isn o4 HLO.out) (own_isn o5 HLO.out)
  have i12 := own_isn o12 HLF.out
  have i13 := own_isn o13 HLF.out
  have i4 := own_isn o4 HLO.out
  have ii16 := OwnII.ii o16 r16
  have ii17 := OwnII.ii o17 r17
  have i6 := own_isn o6 HLS.out
  have i8 := own_isn o8 HLS.out
  have hn17 : n17 ≤ 6 := by have := hos.1; rw [← HN16.out] at this; exact this
  have lk2 := fun W (h : Below w17.heap.size w17 W) => l_likeGroups SP A6 A8 LS c6 c8 SB W HLS.out (by omega) ((i6.below h).more h.size) ((i8.below h).more h.size)
  have hrow16 : ∀ k, k < n17 → (gl OO k).length ≤ 1048576 := fun k hk => by have := hos.2 k (by rw [← HN16.out]; exact hk); omega
  have lk3 := fun W (h : Below w17.heap.size w17 W) => l_likeInts A12 A13 LF c12 c13 FP W _ _ HLF.out (by omega) (i12.below h) (i13.below h)
  have lk4 := fun W (h : Below w17.heap.size w17 W) => l_likeTables A16 A17 n17 c16 c17 OO W _ _ HN16.out (by omega) hrow16 (ii16.below h) (ii17.below h)
  have hhas := fun (h : C1 = 0) W (hW : Below w17.heap.size w17 W) => l_hasInt A4 LO c4 x OF W _ HLO.out (by omega) (hO.out h).2 (i4.below hW)
  have hsum := fun (h : C2 = 0) W (hW : Below w17.heap.size w17 W) => l_sum A12 LF c12 FP W _ HLF.out (by omega) (hF.out h).2.1 (i12.below hW)
  have HFX := Lib.hid (show C2 = 0 → (∀ k, k < LF → 0 ≤ gt FP k ∧ gt FP k ≤ 720) ∧ sm1 FP LF = (M : Int) ∧ sm2 FP LF = (n17 : Int) * (M : Int) ∧ CO = (n17 : Int) ∧ M ≤ 720 from fun h => by
    have h1 := hF.out h
    rw [← HN16.out] at h1
    exact ⟨h1.2.1, h1.2.2.1, h1.2.2.2.1, h1.2.2.2.2.1, h1.2.2.2.2.2⟩)
  have hfz : ∀ z : Int, z = 0 ∨ ((z == 0) = false ∧ (z != 0) = true) := fun z => by
    by_cases h : z = 0
    · exact .inl h
    · exact .inr ⟨by rw [beq_eq_false_iff_ne]; exact h, by rw [bne_iff_ne]; exact h⟩
  have hC1 := hfz C1
  have hC2 := hfz C2
  clear h1 h2 h3 h4 k1 k2 k3 k4 k5 k6 hrow16 ii16 ii17 i6 i8 i13 o4 o5 o6 o8 o12 o13 o16 o17 r16 r17 hos IM IL hfz
  obtain ⟨Q0, Q1, _, _⟩ := Q.two
  obtain ⟨B90, B91, _, _⟩ := B9.two
  obtain ⟨B110, B111, _, _⟩ := B11.two
  obtain ⟨Q20, Q21, _, _⟩ := Q2.two
  rcases hC2 with rfl | ⟨y1, y2⟩
  · obtain ⟨hgt, hs1, hs2, rfl, hM7⟩ := HFX.out rfl
    have HS1 := Lib.hid hs1
    clear hsum
    have HGT := Lib.hid hgt
    have HS2 := Lib.hid hs2
    have hmb : 0 ≤ (n17 : Int) * (M : Int) ∧ (n17 : Int) * (M : Int) ≤ 4320 := by
      have h1 := Nat.mul_le_mul hn17 hM7
      have h2 : ((n17 * M : Nat) : Int) = (n17 : Int) * (M : Int) := Int.natCast_mul _ _
      omega
    have hwm : IntKind.i64.wrap ((n17 : Int) * (M : Int)) = (n17 : Int) * (M : Int) := IntWalk.i64_in _ (by omega)
    have HWM := Lib.hid hwm
    clear hgt hs1 hs2 HFX hF hwm hmb
    go_wp2_with (first
      | (go_at_call 22; refine (lk4 _ hz23).mono ?_; rintro e w24 ⟨rfl, q24, rfl⟩; have hz24 := below_drewN hz23 q24)
      | (go_at_call 21; refine (lk2 _ hz21).mono ?_; rintro e w22 ⟨rfl, hb22⟩; have hz22 := hz21.trans (hb22.mono hz21.size); clear Q0 Q1 B90 B91 Q20 Q21; obtain ⟨Q0, Q1, _, _⟩ := (Q.below hz22 Q.lt).two; obtain ⟨B90, B91, _, _⟩ := (B9.below hz22 B9.lt).two; obtain ⟨Q20, Q21, _, _⟩ := (Q2.below hz22 Q2.lt).two)
      | (go_at_call 20; have z9 := hz22; refine (lk3 _ hz22).mono ?_; rintro e w23 ⟨rfl, q23, rfl⟩; have hz23 := below_drewN hz22 q23)
      | (go_at_call 20; refine lk1.mono ?_; rintro e w21 ⟨rfl, q21, rfl⟩; have hz21 := below_drewN (Below.refl w17.heap.size w17) q21))
    have i12' := i12.below hz22
    go_loopw [26, 27] (fun u26 u27 wr => ∃ i : Nat, i ≤ LF ∧ u27 = .int .i64 i ∧ u26 = .int .i64 (sm2 FP i) ∧ DR w22 wr) (fun _ u27 _ => LF - (intOf u27).toNat)
    case atStart => exact ⟨0, Nat.zero_le _, rfl, rfl, by first | exact ⟨_, rfl⟩ | (simp only [World.drewN_drewN]; exact ⟨_, rfl⟩)⟩
    case round =>
      obtain ⟨i, hi, rfl, rfl, hdr⟩ := hrel
      by_cases hlt : i < LF
      · have hb2 := (sm_bd (l := FP) (b := 720) i (fun j hj => HGT.out j (by omega)) (by omega)).2
        have hb3 : (i : Int) * (i * 720) ≤ 49 * 720 := by
          have h1 : i * i ≤ 7 * 7 := Nat.mul_le_mul (by omega) (by omega)
          have h2 : ((i * i : Nat) : Int) = (i : Int) * i := Int.natCast_mul _ _
          have h3 : (i : Int) * (i * 720) = (i : Int) * i * 720 := by rw [Int.mul_assoc]
          omega
        have hgi := HGT.out i hlt
        obtain ⟨b, off, rfl, hbb, hcell⟩ := i12'.at (k := i) (by rw [← HLF.out]; exact hlt)
        have e1 := (hdr.cell _).trans (hcell i (by rw [← HLF.out]; exact hlt))
        have HS := Lib.hid (show sm2 FP (i + 1) = sm2 FP i + (i : Int) * gt FP i from rfl)
        have hp1 : 0 ≤ (i : Int) * gt FP i := Int.mul_nonneg (by omega) hgi.1
        have hp2 : (i : Int) * gt FP i ≤ 7 * 720 := by
          have h1 : (i : Int) * gt FP i ≤ (i : Int) * 720 := Int.mul_le_mul_of_nonneg_left hgi.2 (by omega)
          omega
        generalize sm2 FP i = s at *
        generalize gt FP i = y at *
        have hwi : IntKind.i64.wrap ((i : Int) * y) = (i : Int) * y := IntWalk.i64_in _ (by omega)
        clear hcell lk1 lk2 lk3 lk4 hhas
        go_wp2_with (fail)
        go_roundw
        case rel => exact ⟨i + 1, by omega, by go_num, by rw [HS.out], by repeat (first | exact hdr | refine DR.step ?_ _)⟩
        case measure => simp [intOf]; omega
      · obtain rfl : i = LF := by omega
        rw [HS2.out]
        have i12z : IS wr w17.heap.size A12 FP := by obtain ⟨qd, rfl⟩ := hdr; exact i12'
        have hzz : Below w17.heap.size w17 wr := by obtain ⟨qd, rfl⟩ := hdr; exact below_drewN hz22 qd
        have QZ := Q.below hzz Q.lt
        have B9Z := B9.below hzz B9.lt
        have Q2Z := Q2.below hzz Q2.lt
        have hi7 : i ≤ 7 := hlf
        have hwm := HWM.out
        have hmb : 0 ≤ (n17 : Int) * (M : Int) ∧ (n17 : Int) * (M : Int) ≤ 4320 := by
          have h1 := Nat.mul_le_mul hn17 hM7
          have h2 : ((n17 * M : Nat) : Int) = (n17 : Int) * (M : Int) := Int.natCast_mul _ _
          omega
        obtain ⟨z0, z1⟩ := hmb
        obtain ⟨Y0, Y1, _, _⟩ := Q2Z.two
        have hbz := bel_call b17 (hzz)
        clear lk1 lk2 lk3 lk4 hdr i12' hz22 hz21 hz23 hz24 Q0 Q1 B90 B91 Q20 Q21
        go_wp2_with (fail)
        go_quiet ((go_at_call 23; exact Calls.quiet_of (l_sumV A12 i c12 FP _ _ HLF.out hi7 HGT.out (i12z.drewN _) HS1.out)))
        obtain ⟨t0, t1, _, _⟩ := QZ.two
        obtain ⟨u0, u1, _, _⟩ := B9Z.two
        have i4z : IS wr w17.heap.size A4 OF := i4.below hzz
        rcases hC1 with rfl | ⟨x1, x2⟩
        · obtain ⟨hm, hx⟩ := hO.out rfl
          have hme : (LO : Int) * (LS : Int) = (L : Int) := by rw [← hm, Int.natCast_mul]
          have hmul : ((LO : Int) * (LS : Int) == (L : Int)) = true := by rw [hme]; simp
          have hml : 0 ≤ (LO : Int) * (LS : Int) ∧ (LO : Int) * (LS : Int) ≤ 1000 := by rw [hme]; omega
          obtain ⟨m0, m1⟩ := hml
          have HX := Lib.hid hx
          clear hm hx hme
          go_wp2_with (go_at_call 24; refine (l_hasInt A4 LO c4 x OF _ _ HLO.out (by omega) HX.out (i4z.drewN _)).mono ?_; rintro e w30 ⟨rfl, q30, rfl⟩)
          go_ret
          exact ⟨by simp, by repeat (first | exact hbz | refine below_drewN ?_ _)⟩
        · go_wp2_with (fail)
          go_ret
          exact ⟨by simp, by repeat (first | exact hbz | refine below_drewN ?_ _)⟩
  · clear HFX hF hsum
    rcases hC1 with rfl | ⟨x1, x2⟩
    · obtain ⟨hm, hx⟩ := hO.out rfl
      have hme : (LO : Int) * (LS : Int) = (L : Int) := by rw [← hm, Int.natCast_mul]
      have hmul : ((LO : Int) * (LS : Int) == (L : Int)) = true := by rw [hme]; simp
      have hml : 0 ≤ (LO : Int) * (LS : Int) ∧ (LO : Int) * (LS : Int) ≤ 1000 := by rw [hme]; omega
      obtain ⟨m0, m1⟩ := hml
      have HX := Lib.hid hx
      clear hm hx hme
      go_wp2_with (first
        | (go_at_call 24; refine (l_hasInt A4 LO c4 x OF _ _ HLO.out (by omega) HX.out (i4.below (below_drewN hz22 _))).mono ?_; rintro e w30 ⟨rfl, q30, rfl⟩)
        | (go_at_call 22; refine (lk4 _ hz23).mono ?_; rintro e w24 ⟨rfl, q24, rfl⟩; have hz24 := below_drewN hz23 q24)
        | (go_at_call 21; refine (lk2 _ hz21).mono ?_; rintro e w22 ⟨rfl, hb22⟩; have hz22 := hz21.trans (hb22.mono hz21.size); clear Q0 Q1 B90 B91 Q20 Q21; obtain ⟨Q0, Q1, _, _⟩ := (Q.below hz22 Q.lt).two; obtain ⟨B90, B91, _, _⟩ := (B9.below hz22 B9.lt).two; obtain ⟨Q20, Q21, _, _⟩ := (Q2.below hz22 Q2.lt).two)
        | (go_at_call 20; have z9 := hz22; refine (lk3 _ hz22).mono ?_; rintro e w23 ⟨rfl, q23, rfl⟩; have hz23 := below_drewN hz22 q23)
        | (go_at_call 20; refine lk1.mono ?_; rintro e w21 ⟨rfl, q21, rfl⟩; have hz21 := below_drewN (Below.refl w17.heap.size w17) q21))
      go_ret
      exact ⟨by simp, by repeat (first | exact bel_call b17 hz22 | refine below_drewN ?_ _)⟩
    · go_wp2_with (first
        | (go_at_call 22; refine (lk4 _ hz23).mono ?_; rintro e w24 ⟨rfl, q24, rfl⟩; have hz24 := below_drewN hz23 q24)
        | (go_at_call 21; refine (lk2 _ hz21).mono ?_; rintro e w22 ⟨rfl, hb22⟩; have hz22 := hz21.trans (hb22.mono hz21.size); clear Q0 Q1 B90 B91 Q20 Q21; obtain ⟨Q0, Q1, _, _⟩ := (Q.below hz22 Q.lt).two; obtain ⟨B90, B91, _, _⟩ := (B9.below hz22 B9.lt).two; obtain ⟨Q20, Q21, _, _⟩ := (Q2.below hz22 Q2.lt).two)
        | (go_at_call 20; have z9 := hz22; refine (lk3 _ hz22).mono ?_; rintro e w23 ⟨rfl, q23, rfl⟩; have hz23 := below_drewN hz22 q23)
        | (go_at_call 20; refine lk1.mono ?_; rintro e w21 ⟨rfl, q21, rfl⟩; have hz21 := below_drewN (Below.refl w17.heap.size w17) q21))
      go_ret
      exact ⟨by simp, by repeat (first | exact bel_call b17 hz22 | refine below_drewN ?_ _)⟩
end Go.Proofs.Ythjoegoeaiemdaa

/- Walks: GeometricSum. -/
import Derived.Test.YtlhkpepnklbnfaaA43
namespace Go.Proofs.Ytlhkpepnklbnfaa
set_option linter.unusedVariables false
set_option linter.unusedSimpArgs false
open Go.RowKit

theorem BK.one {w : World} {g : Nat} {t : TypeId} {x : Value} (h : BK w g t #[x]) : w.cell? ⟨g, 0, none⟩ = some x ∧ w.frozen? ⟨g, 0, none⟩ = false := ⟨h.cell 0, h.frozen 0⟩
noncomputable def gsC (p n x : Int) : Int := if rgC p n x = 0 then (if x % p = 0 then 0 else 5) else rgC p n x
noncomputable def gsV (p n x : Int) : Int := if gsC p n x = 0 then invM ((1 - x) % ((p.toNat ^ n.toNat : Nat) : Int)).toNat (p.toNat ^ n.toNat) else 0
theorem rgC_0 {p n x : Int} (h : rgC p n x = 0) : ringB p n = true ∧ inB x 0 (((p.toNat ^ n.toNat : Nat) : Int) - 1) = true := by
  unfold rgC at h
  cases h1 : ringB p n <;> cases h2 : inB x 0 (((p.toNat ^ n.toNat : Nat) : Int) - 1) <;> rw [h1, h2] at h <;> simp at h
  exact ⟨rfl, rfl⟩
theorem keepS3 {w0 w1 w2 : World} {g : Nat} {a b c : Value} (hg : g + 1 < w0.heap.size)
    (h : Below w0.heap.size w0 w1 ∧ w1.cell? ⟨g, 0, none⟩ = some a ∧ w1.cell? ⟨g, 1, none⟩ = some b ∧ w1.cell? ⟨g + 1, 0, none⟩ = some c) (hb : Below w1.heap.size w1 w2) :
    Below w0.heap.size w0 w2 ∧ w2.cell? ⟨g, 0, none⟩ = some a ∧ w2.cell? ⟨g, 1, none⟩ = some b ∧ w2.cell? ⟨g + 1, 0, none⟩ = some c := by
  obtain ⟨h0, h1, h2, h3⟩ := h
  have hs := h0.size
  refine ⟨h0.trans (hb.mono hs), ?_, ?_, ?_⟩
  · rw [hb.cell (by simp; omega)]; exact h1
  · rw [hb.cell (by simp; omega)]; exact h2
  · rw [hb.cell (by simp; omega)]; exact h3
theorem c_geo (p x : Int) (gx gr : Nat) (w : World) (hx : w.cell? ⟨gx, 0, none⟩ = some (.int .i64 x)) (hr : w.cell? ⟨gr, 0, none⟩ = some (.int .i64 p)) (hp : 2 ≤ p) (h0 : 0 ≤ x) (b : Bool) (h : (x % p == 0) = b) :
    Calls Try.prog 88 #[.pointer (some ⟨gx, 0, none⟩), .pointer (some ⟨gr, 0, none⟩)] w (Q (.bool b) w) := by
  go_enter Try.func88, Try.ntmps88
  go_wp2_with (fail)
  go_ret
  exact ⟨rfl, 0, rfl⟩
set_option maxHeartbeats 1000000 in
theorem i_converging_geo (p n x : Int) (gx gr gs : Nat) (tx ts : TypeId) (w : World) (hp0 : -9223372036854775808 ≤ p) (hx : BK w gx tx #[.int .i64 x]) (hr : BK w gr 51 #[.int .i64 p, .int .i64 n]) (hs : BK w gs ts #[.int .i64 x]) :
    Calls Try.prog 87 #[.agg #[.int .i64 p, .int .i64 n], .func (Fn.func 88) #[] #[.pointer (some ⟨gx, 0, none⟩), .pointer (some ⟨gr, 0, none⟩)], .slice (some ⟨gs, 0, none⟩) 1 1] w (M (.int .i64 (gsC p n x)) w) := by
  cases h1 : ringB p n
  · have HC : Hid (gsC p n x = 1) := by unfold Hid gsC rgC; rw [h1]; rfl
    go_enter Try.func87, Try.ntmps87
    go_wp2_with (go_at_call 122; refine (i_IsRing _ _ _ hp0).mono ?_; rw [h1]; rintro e w' ⟨rfl, hb1⟩)
    go_ret
    exact ⟨ret_int HC.out.symm, bel_call (BoxB _ _) hb1⟩
  · obtain ⟨p1, p2, n1, n2, hb, _⟩ := ringB_bd h1
    have hgs : gsC p n x = if rgC p n x = 0 then (if x % p = 0 then 0 else 5) else rgC p n x := rfl
    obtain ⟨p, rfl⟩ := Int.eq_ofNat_of_zero_le (show 0 ≤ p by omega)
    obtain ⟨n, rfl⟩ := Int.eq_ofNat_of_zero_le (show 0 ≤ n by omega)
    simp only [Int.toNat_natCast] at hb
    have hpos : 0 < p ^ n := Nat.pow_pos (by omega)
    have HB := BK.new w 51 #[.int .i64 (p : Int), .int .i64 (n : Int)]
    cases h2 : inB x 0 (((p ^ n : Nat) : Int) - 1)
    · have hrg : rgC p n x = 2 := by unfold rgC; rw [h1, Int.toNat_natCast, Int.toNat_natCast, h2]; rfl
      have HC : Hid (gsC p n x = 2) := by unfold Hid; rw [hgs, hrg]; rfl
      clear hgs hrg
      generalize hm : p ^ n = m at *
      have HM := Lib.hid hm
      clear hm
      go_enter Try.func87, Try.ntmps87
      go_wp2_with (fail)
      refine (i_IsRing _ _ _ hp0).mono ?_
      rw [h1]
      rintro e w1 ⟨rfl, hb1⟩
      have b1 := bel_call (BoxB w _) hb1
      obtain ⟨c0, c1, _, _⟩ := (HB.of_below hb1).two
      obtain ⟨d0, d1⟩ := (hs.below b1 hs.lt).one
      have HB1 := HB.of_below hb1
      clear HB hb1
      go_wp2_with (fail)
      go_loopw [14] (fun u wr => (u = .int .i64 0 ∧ wr = w1) ∨ (u = .int .i64 1 ∧ Hid (inB x 0 ((m : Int) - 1) = true) ∧ Below w1.heap.size w1 wr)) (fun u _ => (1 - intOf u).toNat)
      case atStart => exact .inl ⟨rfl, rfl⟩
      case round =>
        rcases hrel with ⟨rfl, rfl⟩ | ⟨rfl, HF, hbw⟩
        · go_wp2_with (fail)
          refine (i_has p n m x _ HM (by omega) (by omega) (by omega) (by omega)).mono ?_
          rw [h2]
          rintro e w2 ⟨rfl, hb2⟩
          go_wp2_with (fail)
          go_ret
          exact ⟨ret_int HC.out.symm, bel_call b1 hb2⟩
        · have := HF.out
          rw [h2] at this
          cases this
    · have hrg : rgC p n x = 0 := by unfold rgC; rw [h1, Int.toNat_natCast, Int.toNat_natCast, h2]; rfl
      have HG : Hid (gsC p n x = if x % (p : Int) = 0 then 0 else 5) := by unfold Hid; rw [hgs, hrg]; rfl
      obtain ⟨x1, x2⟩ := inB_true h2
      clear hgs hrg
      generalize hm : p ^ n = m at *
      have HM := Lib.hid hm
      clear hm
      go_enter Try.func87, Try.ntmps87
      go_wp2_with (fail)
      refine (i_IsRing _ _ _ hp0).mono ?_
      rw [h1]
      rintro e w1 ⟨rfl, hb1⟩
      have b1 := bel_call (BoxB w _) hb1
      obtain ⟨c0, c1, _, _⟩ := (HB.of_below hb1).two
      obtain ⟨d0, d1⟩ := (hs.below b1 hs.lt).one
      have HB1 := HB.of_below hb1
      clear HB hb1
      go_wp2_with (fail)
      go_loopw [14] (fun u wr => (u = .int .i64 0 ∧ wr = w1) ∨ (u = .int .i64 1 ∧ Hid (inB x 0 ((m : Int) - 1) = true) ∧ Below w1.heap.size w1 wr)) (fun u _ => (1 - intOf u).toNat)
      case atStart => exact .inl ⟨rfl, rfl⟩
      case round =>
        rcases hrel with ⟨rfl, rfl⟩ | ⟨rfl, HF, hbw⟩
        · go_wp2_with (fail)
          refine (i_has p n m x _ HM (by omega) (by omega) (by omega) (by omega)).mono ?_
          rw [h2]
          rintro e w2 ⟨rfl, hb2⟩
          go_wp2_with (fail)
          go_roundw
          case rel => exact .inr ⟨rfl, h2, hb2⟩
          case measure => simp [intOf]
        · obtain ⟨e0, e1, _, _⟩ := (hr.below (bel_call b1 hbw) hr.lt).two
          obtain ⟨f0, _⟩ := (hx.below (bel_call b1 hbw) hx.lt).one
          by_cases h5 : x % (p : Int) = 0
          · have HC : Hid (gsC p n x = 0) := by unfold Hid; rw [HG.out, if_pos h5]
            have h6 : (x % (p : Int) == 0) = true := by rw [beq_iff_eq]; exact h5
            clear h5
            go_wp2_with (go_at_call 88; refine (c_geo p x gx gr _ f0 e0 (by omega) x1 _ h6).mono ?_; rintro e w' ⟨rfl, nq, rfl⟩)
            go_ret
            exact ⟨ret_int HC.out.symm, below_drewN (bel_call b1 hbw) _⟩
          · have HC : Hid (gsC p n x = 5) := by unfold Hid; rw [HG.out, if_neg h5]
            have h6 : (x % (p : Int) == 0) = false := by rw [beq_eq_false_iff_ne]; exact h5
            clear h5
            go_wp2_with (go_at_call 88; refine (c_geo p x gx gr _ f0 e0 (by omega) x1 _ h6).mono ?_; rintro e w' ⟨rfl, nq, rfl⟩)
            go_ret
            exact ⟨ret_int HC.out.symm, below_drewN (bel_call b1 hbw) _⟩
theorem gsC_0 {p n x : Int} (h : gsC p n x = 0) : ringB p n = true ∧ inB x 0 (((p.toNat ^ n.toNat : Nat) : Int) - 1) = true ∧ x % p = 0 := by
  unfold gsC at h
  by_cases h1 : rgC p n x = 0
  · rw [if_pos h1] at h
    by_cases h2 : x % p = 0
    · have := rgC_0 h1
      exact ⟨this.1, this.2, h2⟩
    · rw [if_neg h2] at h; cases h
  · rw [if_neg h1] at h; exact absurd h h1
theorem three_boxes (w : World) (t t' t'' : TypeId) (cs cs' cs'' : Array Value) : BK (((w.alloc (.cells cs t)).alloc (.cells cs' t')).alloc (.cells cs'' t'')) w.heap.size t cs ∧ BK (((w.alloc (.cells cs t)).alloc (.cells cs' t')).alloc (.cells cs'' t'')) (w.heap.size + 1) t' cs' ∧ BK (((w.alloc (.cells cs t)).alloc (.cells cs' t')).alloc (.cells cs'' t'')) (w.heap.size + 1 + 1) t'' cs'' := by
  obtain ⟨h1, h2⟩ := two_boxes w t t' cs cs'
  refine ⟨h1.alloc _, h2.alloc _, ?_⟩
  have h := BK.new ((w.alloc (.cells cs t)).alloc (.cells cs' t')) t'' cs''
  rw [World.size_alloc, World.size_alloc] at h
  exact h
set_option maxHeartbeats 1000000 in
theorem i_GeometricSum (p n x : Int) (w : World) (hp0 : -9223372036854775808 ≤ p) : Calls Try.prog 40 #[.agg #[.int .i64 p, .int .i64 n], .int .i64 x] w (M2 (gsV p n x) (gsC p n x) w) := by
  obtain ⟨B1, B2, B3⟩ := three_boxes w 51 2 2 #[.int .i64 p, .int .i64 n] #[.int .i64 x] #[.int .i64 x]
  have hb3 : Below w.heap.size w (((w.alloc (.cells #[.int .i64 p, .int .i64 n] 51)).alloc (.cells #[.int .i64 x] 2)).alloc (.cells #[.int .i64 x] 2)) := (two_alloc w _ _).alloc (by simp <;> omega) _
  by_cases h0 : gsC p n x = 0
  · obtain ⟨h1, h2, h3⟩ := gsC_0 h0
    have HV : Hid (gsV p n x = invM ((1 - x) % ((p.toNat ^ n.toNat : Nat) : Int)).toNat (p.toNat ^ n.toNat)) := by unfold Hid gsV; rw [if_pos h0]
    have HC := Lib.hid h0
    clear h0 h3
    obtain ⟨p1, p2, n1, n2, hb, _⟩ := ringB_bd h1
    obtain ⟨p, rfl⟩ := Int.eq_ofNat_of_zero_le (show 0 ≤ p by omega)
    obtain ⟨n, rfl⟩ := Int.eq_ofNat_of_zero_le (show 0 ≤ n by omega)
    simp only [Int.toNat_natCast] at hb HV h2
    have hpos : 0 < p ^ n := Nat.pow_pos (by omega)
    generalize hm : p ^ n = m at *
    have HM := Lib.hid hm
    clear hm
    obtain ⟨x1, x2⟩ := inB_true h2
    obtain ⟨y, hy⟩ : ∃ y : Nat, (1 - x) % (m : Int) = (y : Int) := ⟨((1 - x) % (m : Int)).toNat, by have := emod_bd (1 - x) (m := (m : Int)) (by omega); omega⟩
    have hym : y < m := by have := emod_bd (1 - x) (m := (m : Int)) (by omega); omega
    rw [hy] at HV
    simp only [Int.toNat_natCast] at HV
    have HY := Lib.hid hy
    clear hy h1 h2
    go_enter Try.func40, Try.ntmps40
    go_wp2_with (fail)
    refine (i_converging_geo p n x (w.heap.size + 1) w.heap.size (w.heap.size + 1 + 1) _ _ _ hp0 B2 B1 B3).mono ?_
    rw [HC.out]
    rintro e w1 ⟨rfl, hb1⟩
    have b1 := bel_call hb3 hb1
    have C1 := B1.of_below hb1
    have C2 := B2.of_below hb1
    obtain ⟨c0, c1, _, _⟩ := C1.two
    obtain ⟨d0, _⟩ := C2.one
    clear hb1 B1 B2 B3 hb3
    go_wp2_with (fail)
    have hsz := C2.lt
    have hst : Below w1.heap.size w1 w1.drew ∧ w1.drew.cell? ⟨w.heap.size, 0, none⟩ = some (.int .i64 p) ∧ w1.drew.cell? ⟨w.heap.size, 1, none⟩ = some (.int .i64 n) ∧ w1.drew.cell? ⟨w.heap.size + 1, 0, none⟩ = some (.int .i64 x) := ⟨(Below.refl _ _).drew, c0, c1, d0⟩
    have hw1 : IntKind.i64.wrap (1 - x) = 1 - x := IntWalk.i64_in _ (by omega)
    clear c0 c1 d0 C1 C2
    go_region_held3 (fun w' => Below w1.heap.size w1 w' ∧ w'.cell? ⟨w.heap.size, 0, none⟩ = some (.int .i64 p) ∧ w'.cell? ⟨w.heap.size, 1, none⟩ = some (.int .i64 n) ∧ w'.cell? ⟨w.heap.size + 1, 0, none⟩ = some (.int .i64 x)) ((first | exact hst | (refine keepS3 hsz ?_ hb5; assumption)))
      (first | (go_at_call 91; refine (i_modulus p n _ (by rw [HM.out]; omega) (by omega) (by omega)).mono ?_; rw [HM.out]; rintro e w5 ⟨rfl, hb5⟩) | (go_at_call 90; refine ((i_mod (1 - x) (m : Int) _ (by omega) (by omega)).mono fun _ _ h => Q.toM h).mono ?_; rw [HY.out]; rintro e w5 ⟨rfl, hb5⟩) | (go_at_call 89; refine (i_inverse p n m y _ HM (by omega) (by omega) (by omega) (by omega) (by omega)).mono ?_; rintro e w5 ⟨rfl, hb5⟩))
    have hS : Below w1.heap.size w1 w5 ∧ w5.cell? ⟨w.heap.size, 0, none⟩ = some (.int .i64 p) ∧ w5.cell? ⟨w.heap.size, 1, none⟩ = some (.int .i64 n) ∧ w5.cell? ⟨w.heap.size + 1, 0, none⟩ = some (.int .i64 x) := by assumption
    have hfin := bel_call b1 hS.1
    clear hst hS
    go_wp2_with (fail)
    go_ret2
    exact ⟨ret_ii HV.out.symm HC.out.symm, hfin⟩
  · have hx : (gsC p n x != 0) = true := by simpa using h0
    have HV : Hid (gsV p n x = 0) := by unfold Hid gsV; rw [if_neg h0]
    clear h0
    go_enter Try.func40, Try.ntmps40
    go_wp2_with (fail)
    refine (i_converging_geo p n x (w.heap.size + 1) w.heap.size (w.heap.size + 1 + 1) _ _ _ hp0 B2 B1 B3).mono ?_
    rintro e w1 ⟨rfl, hb1⟩
    have b1 := bel_call hb3 hb1
    go_wp2_with (fail)
    go_ret2
    exact ⟨ret_ii HV.out.symm rfl, b1⟩
set_option maxHeartbeats 1000000 in
theorem s_GeometricSum (p n x : Int) (w : World) (hp0 : -9223372036854775808 ≤ p) : Calls Try.prog 38 #[.agg #[.int .i64 p, .int .i64 n], .int .i64 x] w (M2 (gsV p n x) (gsC p n x) w) := by
  have hgs : gsC p n x = if rgC p n x = 0 then (if x % p = 0 then 0 else 5) else rgC p n x := rfl
  have hB := BK.new w 51 #[.int .i64 p, .int .i64 n]
  by_cases h0 : rgC p n x = 0
  · obtain ⟨h1, h2⟩ := rgC_0 h0
    obtain ⟨p1, p2, n1, n2, hb, _⟩ := ringB_bd h1
    rw [if_pos h0] at hgs
    obtain ⟨x1, x2⟩ := inB_true h2
    have HRC := Lib.hid h0
    by_cases h3 : x % p = 0
    · have HC : Hid (gsC p n x = 0) := by unfold Hid; rw [hgs, if_pos h3]
      have HV : Hid (gsV p n x = invM ((1 - x) % ((p.toNat ^ n.toNat : Nat) : Int)).toNat (p.toNat ^ n.toNat)) := by unfold Hid gsV; rw [HC.out]; rfl
      have h6 : (x % p != 0) = false := by rw [h3]; rfl
      clear h0 h3 hgs
      obtain ⟨p, rfl⟩ := Int.eq_ofNat_of_zero_le (show 0 ≤ p by omega)
      obtain ⟨n, rfl⟩ := Int.eq_ofNat_of_zero_le (show 0 ≤ n by omega)
      simp only [Int.toNat_natCast] at hb HV h2 x2
      have hpos : 0 < p ^ n := Nat.pow_pos (by omega)
      generalize hm : p ^ n = m at *
      have HMD := Lib.hid (md_ring hm hb)
      clear hm
      obtain ⟨y, hy⟩ : ∃ y : Nat, (1 - x) % (m : Int) = (y : Int) := ⟨((1 - x) % (m : Int)).toNat, by have := emod_bd (1 - x) (m := (m : Int)) (by omega); omega⟩
      have hym : y < m := by have := emod_bd (1 - x) (m := (m : Int)) (by omega); omega
      rw [hy] at HV
      simp only [Int.toNat_natCast] at HV
      have HY := Lib.hid hy
      clear hy h1 h2
      go_enter Try.func38, Try.ntmps38
      go_wp2_with (fail)
      refine (s_l02Code _ _ _ _ hp0).mono ?_
      rw [HRC.out]
      rintro e w1 ⟨rfl, hb1⟩
      have b1 := bel_call (BoxB w _) hb1
      obtain ⟨c0, c1, _, _⟩ := (hB.of_below hb1).two
      clear hb1 hB
      go_wp2_with (first | (go_at_call 84; refine (s_l02Modulus p n _ (by omega) (by omega) (by omega)).mono ?_; rw [HMD.out]; rintro e w' ⟨rfl, nq, rfl⟩) | (go_at_call 86; refine (s_l01Mod _ _ _ (by omega) (by omega)).mono ?_; rw [HY.out]; rintro e w' ⟨rfl, nq2, rfl⟩) | (go_at_call 85; refine (s_l02Inverse y m _ (by omega) (by omega) (by omega)).mono ?_; rintro e w' ⟨rfl, nq3, rfl⟩))
      go_ret2
      refine ⟨ret_ii HV.out.symm HC.out.symm, ?_⟩
      repeat (first | exact b1 | refine below_drewN ?_ _)
    · have HC : Hid (gsC p n x = 5) := by unfold Hid; rw [hgs, if_neg h3]
      have HV : Hid (gsV p n x = 0) := by unfold Hid gsV; rw [HC.out]; rfl
      have h6 : (x % p != 0) = true := by rw [bne_iff_ne]; exact h3
      clear h0 h3 hgs h1 h2
      go_enter Try.func38, Try.ntmps38
      go_wp2_with (fail)
      refine (s_l02Code _ _ _ _ hp0).mono ?_
      rw [HRC.out]
      rintro e w1 ⟨rfl, hb1⟩
      have b1 := bel_call (BoxB w _) hb1
      obtain ⟨c0, c1, _, _⟩ := (hB.of_below hb1).two
      clear hb1 hB
      go_wp2_with (fail)
      go_ret2
      exact ⟨ret_ii HV.out.symm HC.out.symm, b1⟩
  · have HC : Hid (gsC p n x = rgC p n x) := by unfold Hid; rw [hgs, if_neg h0]
    have HV : Hid (gsV p n x = 0) := by unfold Hid gsV; rw [HC.out, if_neg h0]
    have h6 : (rgC p n x == 0) = false := by rw [beq_eq_false_iff_ne]; exact h0
    have h7 : (rgC p n x != 0) = true := by rw [bne_iff_ne]; exact h0
    clear h0 hgs
    go_enter Try.func38, Try.ntmps38
    go_wp2_with (fail)
    refine (s_l02Code _ _ _ _ hp0).mono ?_
    rintro e w1 ⟨rfl, hb1⟩
    have b1 := bel_call (BoxB w _) hb1
    clear hb1 hB
    go_wp2_with (fail)
    go_ret2
    exact ⟨ret_ii HV.out.symm HC.out.symm, b1⟩
end Go.Proofs.Ytlhkpepnklbnfaa

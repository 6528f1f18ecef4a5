/- Contracts and walks: AbsoluteAt. -/
import Derived.Test.YtlhkpepnklbnfaaA23
import Derived.Test.YtlhkpepnklbnfaaA4
namespace Go.Proofs.Ytlhkpepnklbnfaa
set_option linter.unusedVariables false
set_option linter.unusedSimpArgs false
open Go.RowKit

noncomputable def aN (a b p : Int) : Int := if vcode a b p = 0 then ((p.toNat ^ val p.toNat b.natAbs : Nat) : Int) else 0
noncomputable def aD (a b p : Int) : Int := if vcode a b p = 0 then ((p.toNat ^ val p.toNat a.natAbs : Nat) : Int) else 0
/-- A struct of two numbers and a code. -/
def MR (x y c : Int) (w : World) (e : Ending) (w' : World) : Prop := e = .returned (.tuple #[.agg #[.int .i64 x, .int .i64 y], .int .i64 c]) ∧ Below w.heap.size w w'
theorem ret_aii {a b c a' b' c' : Int} (h1 : a = a') (h2 : b = b') (h3 : c = c') : Ending.returned (.tuple #[.agg #[.int .i64 a, .int .i64 b], .int .i64 c]) = .returned (.tuple #[.agg #[.int .i64 a', .int .i64 b'], .int .i64 c']) := by rw [h1, h2, h3]
theorem coprime_val {a b : Int} {p : Nat} (hp : 2 ≤ p) (h : Int.gcd a b = 1) : val p a.natAbs = 0 ∨ val p b.natAbs = 0 := by
  rcases Nat.eq_zero_or_pos (val p a.natAbs) with h1 | h1
  · exact .inl h1
  · rcases Nat.eq_zero_or_pos (val p b.natAbs) with h2 | h2
    · exact .inr h2
    · have d := Nat.dvd_gcd (val_pos_dvd h1) (val_pos_dvd h2)
      unfold Int.gcd at h
      rw [h] at d
      have := Nat.le_of_dvd (by omega) d
      omega
theorem set2 {w : World} {g : Nat} {t : TypeId} {a b x y : Value} (h : BK w g t #[a, b]) : ((w.setCell ⟨g, 0, none⟩ x).setCell ⟨g, 1, none⟩ y).cell? ⟨g, 0, none⟩ = some x ∧ ((w.setCell ⟨g, 0, none⟩ x).setCell ⟨g, 1, none⟩ y).cell? ⟨g, 1, none⟩ = some y := by
  have h1 := (h.set 0 x).set 1 y
  rw [h1.cell, h1.cell]
  exact ⟨rfl, rfl⟩
theorem two_alloc (w : World) (o1 o2 : Obj) : Below w.heap.size w ((w.alloc o1).alloc o2) := ((Below.refl _ _).alloc (Nat.le_refl _) _).alloc (by simp) _
set_option maxHeartbeats 1000000 in
theorem i_AbsoluteAt (a b p : Int) (w : World) : Calls Try.prog 32 #[.agg #[.int .i64 a, .int .i64 b], .int .i64 p] w (MR (aN a b p) (aD a b p) (vcode a b p) w) := by
  by_cases h0 : vcode a b p = 0
  · obtain ⟨h2, h1, ha0⟩ := vcode_0 h0
    obtain ⟨b1, b2, b3, b4, hg⟩ := ratB_bd h1
    obtain ⟨p1, p2⟩ := smallB_t h2
    have hN : aN a b p = ((p.toNat ^ val p.toNat b.natAbs : Nat) : Int) := by unfold aN; rw [if_pos h0]
    have hD : aD a b p = ((p.toNat ^ val p.toNat a.natAbs : Nat) : Int) := by unfold aD; rw [if_pos h0]
    have hV : vV a b p = (val p.toNat a.natAbs : Int) - (val p.toNat b.natAbs : Int) := by unfold vV; rw [if_pos h0]
    have hcv := coprime_val (p := p.toNat) (by omega) hg
    have w1 := pow_val_le (p := p.toNat) (n := a.natAbs) (by omega) (by omega)
    have w2 := pow_val_le (p := p.toNat) (n := b.natAbs) (by omega) (by omega)
    have v1 := val_le40 (p := p.toNat) (n := a.natAbs) (by omega) (by omega) (by omega)
    have v2 := val_le40 (p := p.toNat) (n := b.natAbs) (by omega) (by omega) (by omega)
    obtain ⟨p, rfl⟩ := Int.eq_ofNat_of_zero_le (show 0 ≤ p by omega)
    rw [Int.toNat_natCast] at *
    have w1' : p ^ val p a.natAbs ≤ 1000000000000 := by omega
    have w2' : p ^ val p b.natAbs ≤ 1000000000000 := by omega
    clear w1 w2 hg h1 h2
    generalize val p a.natAbs = K at *
    generalize val p b.natAbs = L at *
    have HN := Lib.hid hN
    have HD := Lib.hid hD
    have H0 := Lib.hid h0
    have HW1 := Lib.hid w1'
    have HW2 := Lib.hid w2'
    clear hN hD h0 ha0 w1' w2'
    by_cases hK : 0 < K
    · obtain rfl : L = 0 := by omega
      have HV : Hid (vV a b p = (K : Int)) := by unfold Hid; omega
      clear hV hcv
      go_enter Try.func32, Try.ntmps32
      go_wp2_with (first
        | (go_at_call 72; refine (i_RationalValuation _ _ _ _).mono ?_; rintro e w' ⟨rfl, hb⟩; have hBK : BK w' (w.heap.size + 1) 26 #[.int .i64 0, .int .i64 0] := BK.below (by simpa using BK.new (w.alloc (.cells #[.int .i64 a, .int .i64 b] 26)) 26 #[.int .i64 0, .int .i64 0]) hb (by simp); have hr0 := hb.cell (p := ⟨w.heap.size + 1, 0, none⟩) (by simp); have hr1 := hb.cell (p := ⟨w.heap.size + 1, 1, none⟩) (by simp); have hf0 := hb.frozen (p := ⟨w.heap.size + 1, 0, none⟩) (by simp); have hf1 := hb.frozen (p := ⟨w.heap.size + 1, 1, none⟩) (by simp); simp [go_sem] at hr0 hr1 hf0 hf1; have hsz := hb.size; simp at hsz; rw [H0.out, HV.out])
        | (go_at_call 73; refine (i_power p K _ HW1.out (by omega) (by omega)).mono ?_; rintro e w3 ⟨rfl, nq, rfl⟩))
      obtain ⟨hW0, hW1⟩ := set2 (w := w'.drewN nq) (x := .int .i64 1) (y := .int .i64 ((p : Int) ^ K)) (hBK.drewN nq)
      refine bodyPost_ret (by simp [results, Try.results32, go_sem, hW0, hW1]; try rfl) rfl ?_
      refine ⟨ret_aii (by rw [HN.out]; simp) (by rw [HD.out]; simp) H0.out.symm, ?_⟩
      have hbb := bel_call (two_alloc w _ _) hb
      repeat (first | exact hbb | refine below_drewN ?_ _ | refine Below.setCell ?_ (by simp <;> omega) _)
    · obtain rfl : K = 0 := by omega
      have HV : Hid (vV a b p = -(L : Int)) := by unfold Hid; omega
      clear hV hcv
      go_enter Try.func32, Try.ntmps32
      go_wp2_with (first
        | (go_at_call 72; refine (i_RationalValuation _ _ _ _).mono ?_; rintro e w' ⟨rfl, hb⟩; have hBK : BK w' (w.heap.size + 1) 26 #[.int .i64 0, .int .i64 0] := BK.below (by simpa using BK.new (w.alloc (.cells #[.int .i64 a, .int .i64 b] 26)) 26 #[.int .i64 0, .int .i64 0]) hb (by simp); have hr0 := hb.cell (p := ⟨w.heap.size + 1, 0, none⟩) (by simp); have hr1 := hb.cell (p := ⟨w.heap.size + 1, 1, none⟩) (by simp); have hf0 := hb.frozen (p := ⟨w.heap.size + 1, 0, none⟩) (by simp); have hf1 := hb.frozen (p := ⟨w.heap.size + 1, 1, none⟩) (by simp); simp [go_sem] at hr0 hr1 hf0 hf1; have hsz := hb.size; simp at hsz; rw [H0.out, HV.out])
        | (go_at_call 73; refine (i_power p L _ HW2.out (by omega) (by omega)).mono ?_; rintro e w3 ⟨rfl, nq, rfl⟩))
      obtain ⟨hW0, hW1⟩ := set2 (w := w'.drewN nq) (x := .int .i64 ((p : Int) ^ L)) (y := .int .i64 1) (hBK.drewN nq)
      refine bodyPost_ret (by simp [results, Try.results32, go_sem, hW0, hW1]; try rfl) rfl ?_
      refine ⟨ret_aii (by rw [HN.out]; simp) (by rw [HD.out]; simp) H0.out.symm, ?_⟩
      have hbb := bel_call (two_alloc w _ _) hb
      repeat (first | exact hbb | refine below_drewN ?_ _ | refine Below.setCell ?_ (by simp <;> omega) _)
  · have hx : (vcode a b p != 0) = true := by simpa using h0
    have HN : Hid (aN a b p = 0) := by unfold Hid aN; rw [if_neg h0]
    have HD : Hid (aD a b p = 0) := by unfold Hid aD; rw [if_neg h0]
    clear h0
    go_enter Try.func32, Try.ntmps32
    go_wp2_with (first | (go_at_call 72; refine (i_RationalValuation _ _ _ _).mono ?_; rintro e w' ⟨rfl, hb⟩; have hBK : BK w' (w.heap.size + 1) 26 #[.int .i64 0, .int .i64 0] := BK.below (by simpa using BK.new (w.alloc (.cells #[.int .i64 a, .int .i64 b] 26)) 26 #[.int .i64 0, .int .i64 0]) hb (by simp); have hr0 := hb.cell (p := ⟨w.heap.size + 1, 0, none⟩) (by simp); have hr1 := hb.cell (p := ⟨w.heap.size + 1, 1, none⟩) (by simp); have hf0 := hb.frozen (p := ⟨w.heap.size + 1, 0, none⟩) (by simp); have hf1 := hb.frozen (p := ⟨w.heap.size + 1, 1, none⟩) (by simp); simp [go_sem] at hr0 hr1 hf0 hf1; have hsz := hb.size; simp at hsz))
    obtain ⟨hW0, hW1⟩ := set2 (w := w') (x := .int .i64 0) (y := .int .i64 0) hBK
    refine bodyPost_ret (by simp [results, Try.results32, go_sem, hW0, hW1]; try rfl) rfl ?_
    refine ⟨ret_aii HN.out.symm HD.out.symm rfl, ?_⟩
    have hbb := bel_call (two_alloc w _ _) hb
    repeat (first | exact hbb | refine below_drewN ?_ _ | refine Below.setCell ?_ (by simp <;> omega) _)
theorem s_l16PartsN (n : Int) (p : Nat) (w : World) (b1 : -4611686018427387904 ≤ n) (b2 : n ≤ 4611686018427387904) (h0 : n ≠ 0) (hp : 2 ≤ p) (hp' : p ≤ 97) : Calls Try.prog 71 #[.int .i64 n, .int .i64 p] w (Q (.tuple #[.int .i64 (val p n.natAbs : Nat), .int .i64 (rstI p n)]) w) := by
  have h := s_l16Parts n p w b1 b2 h0 (by omega) (by omega)
  rw [Int.toNat_natCast] at h
  exact h
set_option maxHeartbeats 2000000 in
theorem s_AbsoluteAt (a b p : Int) (w : World) (hp0 : -9223372036854775808 ≤ p) : Calls Try.prog 31 #[.agg #[.int .i64 a, .int .i64 b], .int .i64 p] w (MR (aN a b p) (aD a b p) (vcode a b p) w) := by
  by_cases h0 : vcode a b p = 0
  · obtain ⟨h2, h1, ha0⟩ := vcode_0 h0
    have hrc : rcode a b = 0 := by unfold rcode; rw [h1]; simp [ha0]
    obtain ⟨b1, b2, b3, b4, hg⟩ := ratB_bd h1
    obtain ⟨p1, p2⟩ := smallB_t h2
    have hN : aN a b p = ((p.toNat ^ val p.toNat b.natAbs : Nat) : Int) := by unfold aN; rw [if_pos h0]
    have hD : aD a b p = ((p.toNat ^ val p.toNat a.natAbs : Nat) : Int) := by unfold aD; rw [if_pos h0]
    have w1 := pow_val_le (p := p.toNat) (n := a.natAbs) (by omega) (by omega)
    have w2 := pow_val_le (p := p.toNat) (n := b.natAbs) (by omega) (by omega)
    have hb0 : b ≠ 0 := by omega
    have HA0 := Lib.hid ha0
    have HB0 := Lib.hid hb0
    obtain ⟨p, rfl⟩ := Int.eq_ofNat_of_zero_le (show 0 ≤ p by omega)
    rw [Int.toNat_natCast] at *
    have w1' : p ^ val p a.natAbs ≤ 1000000000000 := by omega
    have w2' : p ^ val p b.natAbs ≤ 1000000000000 := by omega
    have v1 := val_le40 (p := p) (n := a.natAbs) (by omega) (by omega) (by omega)
    have v2 := val_le40 (p := p) (n := b.natAbs) (by omega) (by omega) (by omega)
    clear w1 w2 hg h1 ha0 hb0
    generalize hKa : val p a.natAbs = K at *
    generalize hKb : val p b.natAbs = L at *
    have HKA := Lib.hid hKa
    have HKB := Lib.hid hKb
    clear hKa hKb
    have HN := Lib.hid hN
    have HD := Lib.hid hD
    have H0 := Lib.hid h0
    have HW1 := Lib.hid w1'
    have HW2 := Lib.hid w2'
    have HRC := Lib.hid hrc
    clear hN hD h0 w1' w2' hrc
    go_enter Try.func31, Try.ntmps31
    go_wp2_with (first
      | (go_at_call 70; refine (s_l31Code _ _ _).mono ?_; rintro e w' ⟨rfl, hb⟩; have hBK : BK w' (w.heap.size + 1) 26 #[.int .i64 0, .int .i64 0] := BK.below (by simpa using BK.new (w.alloc (.cells #[.int .i64 a, .int .i64 b] 26)) 26 #[.int .i64 0, .int .i64 0]) hb (by simp); have hr0 := hb.cell (p := ⟨w.heap.size, 0, none⟩) (by simp; omega); have hr1 := hb.cell (p := ⟨w.heap.size, 1, none⟩) (by simp; omega); simp [go_sem] at hr0 hr1; have hsz := hb.size; simp at hsz; rw [HRC.out])
      | (go_at_call 53; refine (s_l01Small _ _ hp0).mono ?_; rintro e w3 ⟨rfl, nq, rfl⟩; rw [h2])
      | (go_at_call 71; refine (s_l16PartsN _ p _ (by omega) (by omega) (by first | exact HA0.out | exact HB0.out) (by omega) (by omega)).mono ?_; first | (rintro e w3 ⟨rfl, nq3, rfl⟩; rw [HKA.out]) | (rintro e w3 ⟨rfl, hdr3⟩; rw [HKB.out]; have hbw3 : Below w'.heap.size w' w3 := (by obtain ⟨m, rfl⟩ := hdr3; exact below_drewN (below_drewN (Below.refl _ _) _) _); clear hdr3; have hsz3 := hbw3.size)))
    go_loopw [7] (fun u7 wr => ∃ i : Nat, i ≤ K ∧ u7 = .int .i64 i ∧ BK wr w3.heap.size 26 #[.int .i64 1, .int .i64 ((p : Int) ^ (K - i))] ∧ Below w3.heap.size w3 wr) (fun u7 _ => (intOf u7).toNat)
    case atStart => exact ⟨K, Nat.le_refl _, rfl, by simpa using BK.new w3 26 #[.int .i64 1, .int .i64 1], (Below.refl _ _).alloc (Nat.le_refl _) _⟩
    case round =>
      obtain ⟨i, hi, rfl, hB, hbw⟩ := hrel
      by_cases hlt : 0 < i
      · have hpw : p ^ (K - i) * p = p ^ (K - (i - 1)) := by rw [← Nat.pow_succ]; congr 1; omega
        have hle : p ^ (K - (i - 1)) ≤ p ^ K := Nat.pow_le_pow_right (by omega) (by omega)
        have hx : ((p : Int) ^ (K - i)) * (p : Int) = ((p ^ (K - (i - 1)) : Nat) : Int) := by rw [← hpw]; simp
        have hx1 : 0 ≤ ((p : Int) ^ (K - i)) * (p : Int) := by rw [hx]; omega
        have hx2 : ((p : Int) ^ (K - i)) * (p : Int) ≤ 1000000000000 := by rw [hx]; have := HW1.out; omega
        have HX := Lib.hid hx
        clear hpw hle hx
        have hq0 := hB.cell 0
        have hq1 := hB.cell 1
        have hfa := hB.frozen 0
        have hfb := hB.frozen 1
        simp at hq0 hq1
        go_wp2_with (fail)
        go_roundw
        case rel =>
          refine ⟨i - 1, by omega, by congr 1; omega, ?_, hbw.setCell (Nat.le_refl _) _⟩
          have h1 := hB.set 1 (.int .i64 (((p : Int) ^ (K - i)) * (p : Int)))
          rw [HX.out] at h1 ⊢
          simpa using h1
        case measure => simp [intOf]; omega
      · obtain rfl : i = 0 := by omega
        go_wp2_with (fail)
        go_loopw [9] (fun u7 wr => ∃ i : Nat, i ≤ L ∧ u7 = .int .i64 i ∧ BK wr w3.heap.size 26 #[.int .i64 ((p : Int) ^ (L - i)), .int .i64 ((p : Int) ^ K)] ∧ Below w3.heap.size w3 wr) (fun u7 _ => (intOf u7).toNat)
        case atStart => exact ⟨L, Nat.le_refl _, rfl, by simpa using hB, hbw⟩
        case round =>
          obtain ⟨i, hi, rfl, hB, hbw⟩ := hrel
          by_cases hlt : 0 < i
          · have hpw : p ^ (L - i) * p = p ^ (L - (i - 1)) := by rw [← Nat.pow_succ]; congr 1; omega
            have hle : p ^ (L - (i - 1)) ≤ p ^ L := Nat.pow_le_pow_right (by omega) (by omega)
            have hx : ((p : Int) ^ (L - i)) * (p : Int) = ((p ^ (L - (i - 1)) : Nat) : Int) := by rw [← hpw]; simp
            have hx1 : 0 ≤ ((p : Int) ^ (L - i)) * (p : Int) := by rw [hx]; omega
            have hx2 : ((p : Int) ^ (L - i)) * (p : Int) ≤ 1000000000000 := by rw [hx]; have := HW2.out; omega
            have HX := Lib.hid hx
            clear hpw hle hx
            have hq0 := hB.cell 0
            have hq1 := hB.cell 1
            have hfa := hB.frozen 0
            have hfb := hB.frozen 1
            simp at hq0 hq1
            go_wp2_with (fail)
            go_roundw
            case rel =>
              refine ⟨i - 1, by omega, by congr 1; omega, ?_, hbw.setCell (Nat.le_refl _) _⟩
              have h1 := hB.set 0 (.int .i64 (((p : Int) ^ (L - i)) * (p : Int)))
              rw [HX.out] at h1 ⊢
              simpa using h1
            case measure => simp [intOf]; omega
          · obtain rfl : i = 0 := by omega
            have hres := hBK.below (hbw3.trans (hbw.mono hbw3.size)) (by omega)
            simp only [Nat.sub_zero] at hB
            have hq0 := hB.cell 0
            have hq1 := hB.cell 1
            simp at hq0 hq1
            have hs0 := hres.cell 0
            have hs1 := hres.cell 1
            have hsa := hres.frozen 0
            have hsb := hres.frozen 1
            simp at hs0 hs1
            go_wp2_with (fail)
            obtain ⟨hW0, hW1⟩ := set2 (x := .int .i64 ((p : Int) ^ L)) (y := .int .i64 ((p : Int) ^ K)) hres
            refine bodyPost_ret (by simp [results, Try.results31, go_sem, hW0, hW1]; try rfl) rfl ?_
            refine ⟨ret_aii (by rw [HN.out]; simp) (by rw [HD.out]; simp) H0.out.symm, ?_⟩
            have hb1 := bel_call (two_alloc w _ _) hb
            have hb2 := bel_call hb1 hbw3
            have hb3 := bel_call hb2 hbw
            repeat (first | exact hb3 | refine below_drewN ?_ _ | refine Below.setCell ?_ (by simp <;> omega) _)
  · have HN : Hid (aN a b p = 0) := by unfold Hid aN; rw [if_neg h0]
    have HD : Hid (aD a b p = 0) := by unfold Hid aD; rw [if_neg h0]
    cases h2 : smallB p
    · have HV : Hid (vcode a b p = 1) := by unfold Hid vcode; rw [h2]; rfl
      clear h0
      go_enter Try.func31, Try.ntmps31
      go_wp2_with (first | (go_at_call 70; refine (s_l31Code _ _ _).mono ?_; rintro e w' ⟨rfl, hb⟩; have hBK : BK w' (w.heap.size + 1) 26 #[.int .i64 0, .int .i64 0] := BK.below (by simpa using BK.new (w.alloc (.cells #[.int .i64 a, .int .i64 b] 26)) 26 #[.int .i64 0, .int .i64 0]) hb (by simp); have hr0 := hb.cell (p := ⟨w.heap.size + 1, 0, none⟩) (by simp); have hr1 := hb.cell (p := ⟨w.heap.size + 1, 1, none⟩) (by simp); have hf0 := hb.frozen (p := ⟨w.heap.size + 1, 0, none⟩) (by simp); have hf1 := hb.frozen (p := ⟨w.heap.size + 1, 1, none⟩) (by simp); simp [go_sem] at hr0 hr1 hf0 hf1; have hsz := hb.size; simp at hsz) | (go_at_call 53; refine (s_l01Small _ _ hp0).mono ?_; rintro e w3 ⟨rfl, nq, rfl⟩; rw [h2]))
      obtain ⟨hW0, hW1⟩ := set2 (w := w'.drewN nq) (x := .int .i64 0) (y := .int .i64 0) (hBK.drewN nq)
      refine bodyPost_ret (by simp [results, Try.results31, go_sem, hW0, hW1]; try rfl) rfl ?_
      refine ⟨ret_aii HN.out.symm HD.out.symm HV.out.symm, ?_⟩
      have hbb := bel_call (two_alloc w _ _) hb
      repeat (first | exact hbb | refine below_drewN ?_ _ | refine Below.setCell ?_ (by simp <;> omega) _)
    · have HV : Hid (vcode a b p = rcode a b) := by unfold Hid vcode; rw [h2]; rfl
      have hx : (rcode a b != 0) = true := by rw [bne_iff_ne, ← HV.out]; exact h0
      clear h0
      go_enter Try.func31, Try.ntmps31
      go_wp2_with (first | (go_at_call 70; refine (s_l31Code _ _ _).mono ?_; rintro e w' ⟨rfl, hb⟩; have hBK : BK w' (w.heap.size + 1) 26 #[.int .i64 0, .int .i64 0] := BK.below (by simpa using BK.new (w.alloc (.cells #[.int .i64 a, .int .i64 b] 26)) 26 #[.int .i64 0, .int .i64 0]) hb (by simp); have hr0 := hb.cell (p := ⟨w.heap.size + 1, 0, none⟩) (by simp); have hr1 := hb.cell (p := ⟨w.heap.size + 1, 1, none⟩) (by simp); have hf0 := hb.frozen (p := ⟨w.heap.size + 1, 0, none⟩) (by simp); have hf1 := hb.frozen (p := ⟨w.heap.size + 1, 1, none⟩) (by simp); simp [go_sem] at hr0 hr1 hf0 hf1; have hsz := hb.size; simp at hsz) | (go_at_call 53; refine (s_l01Small _ _ hp0).mono ?_; rintro e w3 ⟨rfl, nq, rfl⟩; rw [h2]))
      obtain ⟨hW0, hW1⟩ := set2 (w := w'.drewN nq) (x := .int .i64 0) (y := .int .i64 0) (hBK.drewN nq)
      refine bodyPost_ret (by simp [results, Try.results31, go_sem, hW0, hW1]; try rfl) rfl ?_
      refine ⟨ret_aii HN.out.symm HD.out.symm HV.out.symm, ?_⟩
      have hbb := bel_call (two_alloc w _ _) hb
      repeat (first | exact hbb | refine below_drewN ?_ _ | refine Below.setCell ?_ (by simp <;> omega) _)
set_option maxHeartbeats 400000 in
theorem l_eqRational (a b : Int) (w : World) : Calls Try.prog 33 #[.agg #[.int .i64 a, .int .i64 b], .agg #[.int .i64 a, .int .i64 b]] w (M (.bool true) w) := by
  go_enter Try.func33, Try.ntmps33
  go_wp2_with (first | go_quiet (fail))
  go_ret
  refine ⟨rfl, ?_⟩
  repeat (first | exact two_alloc w _ _ | refine below_drewN ?_ _)
set_option maxHeartbeats 1000000 in
theorem law_AbsoluteAt (a b p : Int) (w : World) (_ : -9223372036854775808 ≤ a ∧ a ≤ 9223372036854775807) (_ : -9223372036854775808 ≤ b ∧ b ≤ 9223372036854775807) (hp : -9223372036854775808 ≤ p ∧ p ≤ 9223372036854775807) :
    Calls Try.prog 7 #[.agg #[.int .i64 a, .int .i64 b], .int .i64 p] w (M (.bool true) w) := by
  obtain ⟨hp0, _⟩ := hp
  go_enter Try.func7, Try.ntmps7
  go_wp2_with (fail)
  refine (l_toRational _ _ _).mono ?_
  rintro e w1 ⟨rfl, hb1⟩
  have hc0 := hb1.cell (p := ⟨w.heap.size, 0, none⟩) (by simp)
  have hc1 := hb1.cell (p := ⟨w.heap.size, 1, none⟩) (by simp)
  simp [go_sem] at hc0 hc1
  have b1 := bel_call ((Below.refl w.heap.size w).alloc (Nat.le_refl _) _) hb1
  have hs1 := hb1.size
  simp at hs1
  go_wp2_with (fail)
  refine (s_AbsoluteAt _ _ _ _ hp0).mono ?_
  rintro e w2 ⟨rfl, hb2⟩
  have hd0 := (hb2.cell (p := ⟨w.heap.size, 0, none⟩) (by simp; omega)).trans hc0
  have hd1 := (hb2.cell (p := ⟨w.heap.size, 1, none⟩) (by simp; omega)).trans hc1
  have b2 := bel_call b1 hb2
  have hs2 := hb2.size
  have hl2 : w.heap.size < w2.heap.size := by omega
  clear hc0 hc1 hb1 hb2
  go_wp2_with (fail)
  refine (l_toRational _ _ _).mono ?_
  rintro e w3 ⟨rfl, hb3⟩
  have he0 := hb3.cell (p := ⟨w2.heap.size, 0, none⟩) (by simp)
  have he1 := hb3.cell (p := ⟨w2.heap.size, 1, none⟩) (by simp)
  simp [go_sem] at he0 he1
  have b3 := bel_call (b2.alloc b2.size _) hb3
  have hs3 := hb3.size
  simp at hs3
  clear hb3
  go_wp2_with (fail)
  refine (i_AbsoluteAt _ _ _ _).mono ?_
  rintro e w4 ⟨rfl, hb4⟩
  have hf0 := (hb4.cell (p := ⟨w2.heap.size, 0, none⟩) (by simp; omega)).trans he0
  have hf1 := (hb4.cell (p := ⟨w2.heap.size, 1, none⟩) (by simp; omega)).trans he1
  have b4 := bel_call b3 hb4
  have hs4 := hb4.size
  have hl4 : w2.heap.size < w4.heap.size := by omega
  clear he0 he1 hb4
  go_wp2_with (fail)
  refine (l_eqRational _ _ _).mono ?_
  rintro e w5 ⟨rfl, hb5⟩
  have b5 := bel_call (b4.alloc b4.size _) hb5
  go_wp2_with (fail)
  go_ret
  exact ⟨rfl, b5⟩
end Go.Proofs.Ytlhkpepnklbnfaa

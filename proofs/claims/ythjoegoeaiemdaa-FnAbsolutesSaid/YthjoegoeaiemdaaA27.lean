/- Contracts and walk: ProductOfAll. -/
import Derived.Test.YthjoegoeaiemdaaA30
namespace Go.Proofs.Ythjoegoeaiemdaa
set_option linter.unusedVariables false
set_option linter.unusedSimpArgs false
open Go.RowKit

/-- What is left after the primes below k. -/
noncomputable def stp : Nat → Nat → Nat
  | 0, n => n
  | k + 1, n => if primeB (k : Int) then rst k (stp k n) else stp k n
theorem primeB_2 {n : Int} (h : primeB n = true) : 2 ≤ n := by
  unfold primeB at h
  have h2 : PrimeP n := by simpa using h
  exact h2.1
theorem primeB_lt {n : Int} (h : n < 2) : primeB n = false := by
  cases hp : primeB n
  · rfl
  · have := primeB_2 hp; omega
theorem stp_2 (n : Nat) : stp 2 n = n := by
  have h0 : primeB ((0 : Nat) : Int) = false := primeB_lt (by omega)
  have h1 : primeB ((1 : Nat) : Int) = false := primeB_lt (by omega)
  show (if primeB ((1 : Nat) : Int) then rst 1 (if primeB ((0 : Nat) : Int) then rst 0 n else n) else (if primeB ((0 : Nat) : Int) then rst 0 n else n)) = n
  rw [h0, h1]; rfl
theorem stp_yes {k n : Nat} (h : primeB (k : Int) = true) : stp (k + 1) n = rst k (stp k n) := by
  show (if primeB (k : Int) then rst k (stp k n) else stp k n) = _
  rw [h]; rfl
theorem stp_no {k n : Nat} (h : primeB (k : Int) = false) : stp (k + 1) n = stp k n := by
  show (if primeB (k : Int) then rst k (stp k n) else stp k n) = _
  rw [h]; rfl
theorem stp_bd {n : Nat} (hn : 0 < n) : ∀ k, 0 < stp k n ∧ stp k n ≤ n := by
  intro k
  induction k with
  | zero => exact ⟨hn, Nat.le_refl _⟩
  | succ k ih =>
    cases hp : primeB (k : Int)
    · rw [stp_no hp]; exact ih
    · rw [stp_yes hp]
      have h2 := primeB_2 hp
      have h3 := val_bd (p := k) (n := stp k n) (by omega) ih.1
      omega
theorem rstI_nat {p n : Nat} : rstI p (n : Int) = (rst p n : Int) := by unfold rstI; rw [if_neg (by omega)]; rfl
noncomputable def pN (a b : Int) : Int := if rcode a b = 0 then (stp 98 a.natAbs : Int) else 0
noncomputable def pD (a b : Int) : Int := if rcode a b = 0 then (stp 98 b.natAbs : Int) else 0
theorem rcode_0 {a b : Int} (h : rcode a b = 0) : ratB a b = true ∧ a ≠ 0 := by
  unfold rcode at h
  cases h2 : ratB a b <;> rw [h2] at h <;> simp at h
  exact ⟨rfl, h⟩
theorem s_l16PartsP (n p : Nat) (w : World) (b2 : n ≤ 1000000000000) (h0 : 0 < n) (hp : 2 ≤ p) (hp' : p ≤ 97) : Calls Try.prog 104 #[.int .i64 n, .int .i64 p] w (Q (.tuple #[.int .i64 (val p n : Nat), .int .i64 (rst p n : Nat)]) w) := by
  have h := s_l16PartsN (n : Int) p w (by omega) (by omega) (by omega) hp hp'
  rw [rstI_nat, Int.natAbs_natCast] at h
  exact h
set_option maxHeartbeats 2000000 in
theorem s_ProductOfAll (a b : Int) (w : World) : Calls Try.prog 47 #[.agg #[.int .i64 a, .int .i64 b]] w (MR (pN a b) (pD a b) (rcode a b) w) := by
  by_cases h0 : rcode a b = 0
  · obtain ⟨h1, ha0⟩ := rcode_0 h0
    obtain ⟨b1, b2, b3, b4, _⟩ := ratB_bd h1
    have hN : pN a b = (stp 98 a.natAbs : Int) := by unfold pN; rw [if_pos h0]
    have hD : pD a b = (stp 98 b.natAbs : Int) := by unfold pD; rw [if_pos h0]
    have hq1 : abs64 a = (a.natAbs : Int) := abs64_eq (by omega) (by omega)
    have hq2 : abs64 b = (b.natAbs : Int) := abs64_eq (by omega) (by omega)
    have hx1 : 0 < a.natAbs ∧ a.natAbs ≤ 1000000000000 := by omega
    have hx2 : 0 < b.natAbs ∧ b.natAbs ≤ 1000000000000 := by omega
    have HX1 := Lib.hid hx1
    have HX2 := Lib.hid hx2
    have HN := Lib.hid hN
    have HD := Lib.hid hD
    have H0 := Lib.hid h0
    have HQ1 := Lib.hid hq1
    have HQ2 := Lib.hid hq2
    clear h1 h0 hN hD hq1 hq2 hx1 hx2 ha0
    go_enter Try.func47, Try.ntmps47
    go_wp2_with (first
      | (go_at_call 101; refine (s_l31Code _ _ _).mono ?_; rintro e w' ⟨rfl, hb⟩; have hBK : BK w' (w.heap.size + 1) 61 #[.int .i64 0, .int .i64 0] := BK.below (by simpa using BK.new (w.alloc (.cells #[.int .i64 a, .int .i64 b] 61)) 61 #[.int .i64 0, .int .i64 0]) hb (by simp); have hr0 := hb.cell (p := ⟨w.heap.size, 0, none⟩) (by simp; omega); have hr1 := hb.cell (p := ⟨w.heap.size, 1, none⟩) (by simp; omega); simp [go_sem] at hr0 hr1; have hsz := hb.size; simp at hsz; rw [H0.out])
      | go_quiet ((go_at_call 102; exact Calls.quiet_of (s_l01Abs _ _))))
    rw [HQ1.out]
    obtain ⟨wo, hwo⟩ : ∃ wo : World, wo = w'.drewN nq := ⟨_, rfl⟩
    have hBo : BK wo (w.heap.size + 1) 61 #[.int .i64 0, .int .i64 0] := by rw [hwo]; exact hBK.drewN nq
    have hbo : Below w.heap.size w wo := by rw [hwo]; exact below_drewN (bel_call (two_alloc w _ _) hb) _
    rw [← hwo]
    clear hwo hBK hb hr0 hr1 hsz
    have hy : (b.natAbs : Int) = b := by omega
    rw [← hy]
    have HY := Lib.hid hy
    clear hy b1 b2 b3 b4
    go_loopw [5, 6, 7] (fun u5 u6 u7 wr => ∃ k x y : Nat, 2 ≤ k ∧ k ≤ 98 ∧ 0 < x ∧ x ≤ 1000000000000 ∧ 0 < y ∧ y ≤ 1000000000000 ∧ u5 = .int .i64 x ∧ u6 = .int .i64 y ∧ u7 = .int .i64 k ∧ Hid (x = stp k a.natAbs ∧ y = stp k b.natAbs) ∧ DR wo wr) (fun _ _ u7 _ => 98 - (intOf u7).toNat)
    case atStart => exact ⟨2, a.natAbs, b.natAbs, Nat.le_refl _, by omega, HX1.out.1, HX1.out.2, HX2.out.1, HX2.out.2, rfl, rfl, rfl, ⟨(stp_2 _).symm, (stp_2 _).symm⟩, DR.refl _⟩
    case round =>
      obtain ⟨k, x, y, hk2, hk, hx1, hx2, hy1, hy2, rfl, rfl, rfl, HS, hdr⟩ := hrel
      by_cases hlt : k ≤ 97
      · cases hp : primeB (k : Int)
        · have HS1 : Hid (x = stp (k + 1) a.natAbs ∧ y = stp (k + 1) b.natAbs) := by unfold Hid; rw [stp_no hp, stp_no hp]; exact HS.out
          go_wp2_with (first | (go_at_call 103; refine (s_l01Prime _ _ (by omega) (by omega)).mono ?_; rintro e w2 ⟨rfl, nq2, rfl⟩; rw [hp]))
          go_roundw
          case rel => exact ⟨k + 1, x, y, by omega, by omega, hx1, hx2, hy1, hy2, rfl, rfl, by go_num, HS1, by repeat (first | assumption | exact DR.refl _ | refine DR.step ?_ _)⟩
          case measure => simp [intOf]; omega
        · have HS1 : Hid (rst k x = stp (k + 1) a.natAbs ∧ rst k y = stp (k + 1) b.natAbs) := by unfold Hid; rw [stp_yes hp, stp_yes hp, ← HS.out.1, ← HS.out.2]; exact ⟨rfl, rfl⟩
          have r1 := val_bd (p := k) (n := x) hk2 hx1
          have r2 := val_bd (p := k) (n := y) hk2 hy1
          have r3 : 0 < rst k x ∧ rst k x ≤ 1000000000000 ∧ 0 < rst k y ∧ rst k y ≤ 1000000000000 := by omega
          have R3 := Lib.hid r3
          clear r1 r2 r3
          go_wp2_with (first | (go_at_call 103; refine (s_l01Prime _ _ (by omega) (by omega)).mono ?_; rintro e w2 ⟨rfl, nq2, rfl⟩; rw [hp]) | (go_at_call 104; refine (s_l16PartsP _ k _ (by first | exact hx2 | exact hy2) (by first | exact hx1 | exact hy1) hk2 hlt).mono ?_; rintro e w3 ⟨rfl, nq3, rfl⟩))
          go_roundw
          case rel => exact ⟨k + 1, rst k x, rst k y, by omega, by omega, R3.out.1, R3.out.2.1, R3.out.2.2.1, R3.out.2.2.2, rfl, rfl, by go_num, HS1, by repeat (first | assumption | exact DR.refl _ | refine DR.step ?_ _)⟩
          case measure => simp [intOf]; omega
      · obtain rfl : k = 98 := by omega
        obtain ⟨m, rfl⟩ := hdr
        have hs0 := (hBo.drewN m).cell 0
        have hs1 := (hBo.drewN m).cell 1
        have hsa := (hBo.drewN m).frozen 0
        have hsb := (hBo.drewN m).frozen 1
        simp at hs0 hs1
        go_wp2_with (fail)
        obtain ⟨hW0, hW1⟩ := set2 (w := wo.drewN m) (x := .int .i64 (x : Int)) (y := .int .i64 (y : Int)) (hBo.drewN m)
        refine bodyPost_ret (by simp [results, Try.results47, go_sem, hW0, hW1]; try rfl) rfl ?_
        refine ⟨ret_aii (by rw [HN.out, HS.out.1]) (by rw [HD.out, HS.out.2]) H0.out.symm, ?_⟩
        repeat (first | exact hbo | refine below_drewN ?_ _ | refine Below.setCell ?_ (by simp <;> omega) _)
  · have HN : Hid (pN a b = 0) := by unfold Hid pN; rw [if_neg h0]
    have HD : Hid (pD a b = 0) := by unfold Hid pD; rw [if_neg h0]
    have hx : (rcode a b != 0) = true := by simpa using h0
    clear h0
    go_enter Try.func47, Try.ntmps47
    go_wp2_with (first
      | (go_at_call 101; refine (s_l31Code _ _ _).mono ?_; rintro e w' ⟨rfl, hb⟩; have hBK : BK w' (w.heap.size + 1) 61 #[.int .i64 0, .int .i64 0] := BK.below (by simpa using BK.new (w.alloc (.cells #[.int .i64 a, .int .i64 b] 61)) 61 #[.int .i64 0, .int .i64 0]) hb (by simp); have hr0 := hb.cell (p := ⟨w.heap.size + 1, 0, none⟩) (by simp); have hr1 := hb.cell (p := ⟨w.heap.size + 1, 1, none⟩) (by simp); have hf0 := hb.frozen (p := ⟨w.heap.size + 1, 0, none⟩) (by simp); have hf1 := hb.frozen (p := ⟨w.heap.size + 1, 1, none⟩) (by simp); simp [go_sem] at hr0 hr1 hf0 hf1; have hsz := hb.size; simp at hsz))
    obtain ⟨hW0, hW1⟩ := set2 (w := w') (x := .int .i64 0) (y := .int .i64 0) hBK
    refine bodyPost_ret (by simp [results, Try.results47, go_sem, hW0, hW1]; try rfl) rfl ?_
    refine ⟨ret_aii HN.out.symm HD.out.symm rfl, ?_⟩
    have hbb := bel_call (two_alloc w _ _) hb
    repeat (first | exact hbb | refine below_drewN ?_ _ | refine Below.setCell ?_ (by simp <;> omega) _)
end Go.Proofs.Ythjoegoeaiemdaa

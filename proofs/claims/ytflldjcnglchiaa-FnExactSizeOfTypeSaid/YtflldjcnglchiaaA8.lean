/- Contracts and walk: SizeOfType. -/
import Derived.Test.YtflldjcnglchiaaA7
namespace Go.Proofs.Ytflldjcnglchiaa
set_option linter.unusedVariables false
set_option linter.unusedSimpArgs false
open Go.RowKit

/-- What is left of the count, and how many equal numbers stand behind one another, after k numbers. -/
def szF (xs : List Int) : Nat → Int × Int
  | 0 => ((fact xs.sum.toNat : Nat), 0)
  | k + 1 =>
    let e := if 0 < k ∧ gt xs k = gt xs (k - 1) then (szF xs k).2 + 1 else 1
    ((szF xs k).1 / gt xs k / e, e)
theorem szF_succ (xs : List Int) (k : Nat) : szF xs (k + 1) = ((szF xs k).1 / gt xs k / (if 0 < k ∧ gt xs k = gt xs (k - 1) then (szF xs k).2 + 1 else 1), if 0 < k ∧ gt xs k = gt xs (k - 1) then (szF xs k).2 + 1 else 1) := rfl
theorem szF_bd {xs : List Int} (h : TypeP xs) : ∀ k, k ≤ xs.length → 0 ≤ (szF xs k).1 ∧ (szF xs k).1 ≤ 720 ∧ 0 ≤ (szF xs k).2 ∧ (szF xs k).2 ≤ k := by
  intro k
  induction k with
  | zero =>
    intro _
    have := fact_le (k := xs.sum.toNat) (by have := h.2.2; omega)
    simp only [szF]; omega
  | succ k ih =>
    intro hk
    have h1 := ih (by omega)
    have h2 := h.1 k (by omega)
    rw [szF_succ]
    have h3 : 1 ≤ (if 0 < k ∧ gt xs k = gt xs (k - 1) then (szF xs k).2 + 1 else 1) ∧ (if 0 < k ∧ gt xs k = gt xs (k - 1) then (szF xs k).2 + 1 else 1) ≤ k + 1 := by split <;> omega
    have h4 : 0 ≤ (szF xs k).1 / gt xs k := Int.ediv_nonneg h1.1 (by omega)
    have h5 : (szF xs k).1 / gt xs k ≤ (szF xs k).1 := Int.ediv_le_self _ h1.1
    exact ⟨Int.ediv_nonneg h4 (by omega), Int.le_trans (Int.ediv_le_self _ h4) (by omega), by omega, by omega⟩
noncomputable def soV (xs : List Int) : Int := if typeB xs then (szF xs xs.length).1 else 0
set_option maxHeartbeats 1000000 in
theorem s_SizeOfType (A : Option Addr) (n c : Nat) (xs : List Int) (w : World) (B : Nat) (hn : n = xs.length) (hl : n ≤ 1048576) (hs : IS w B A xs) :
    Calls Try.prog 35 #[.slice A n c] w (Q (.tuple #[.int .i64 (soV xs), .int .i64 (sgC xs)]) w) := by
  have HN := Lib.hid hn
  clear hn
  cases h1 : typeB xs
  · go_enter Try.func35, Try.ntmps35
    go_wp2_with (first | (go_at_call 19; refine (s_IsType _ _ _ xs _ B HN.out hl hs).mono ?_; rintro e w' ⟨rfl, nq, rfl⟩))
    go_ret2
    exact ⟨ret_ii (by simp [soV, h1]) (by simp [sgC, h1]), dq1⟩
  have hp := typeB_p h1
  have HB := Lib.hid hp.bd
  have HP := Lib.hid hp
  obtain ⟨hs1, hs2⟩ := hp.2
  have hv : soV xs = (szF xs xs.length).1 := by simp [soV, h1]
  have hw : sgC xs = 0 := by simp [sgC, h1]
  rw [← HN.out] at hv
  have HV := Lib.hid hv
  have HW := Lib.hid hw
  clear hv hw hp
  go_enter Try.func35, Try.ntmps35
  go_wp2_with (first | (go_at_call 19; refine (s_IsType _ _ _ xs _ B HN.out hl hs).mono ?_; rintro e w' ⟨rfl, nq, rfl⟩) | (go_at_call 60; refine (s_l01Sum _ _ _ xs _ B HN.out hl (hs.drewN _) HB.out).mono ?_; rintro e w' ⟨rfl, nq, rfl⟩) | (go_at_call 63; refine (s_l21Factorial _ _ hs1 hs2).mono ?_; rintro e w' ⟨rfl, nq, rfl⟩))
  go_loopw [4, 5, 6] (fun u4 u5 u6 wr => ∃ k : Nat, k ≤ n ∧ u6 = .int .i64 k ∧ u4 = .int .i64 (szF xs k).1 ∧ u5 = .int .i64 (szF xs k).2 ∧ DR w wr) (fun _ _ u6 _ => n - (intOf u6).toNat)
  case atStart => exact ⟨0, Nat.zero_le _, rfl, rfl, rfl, ⟨_, rfl⟩⟩
  case round =>
    obtain ⟨k, hk, rfl, rfl, rfl, hdr⟩ := hrel
    have HSB := Lib.hid (szF_bd HP.out k (by rw [← HN.out]; exact hk))
    by_cases hlt : k < n
    · obtain ⟨b, off, rfl, hbb, hcell⟩ := IS.at hs (k := k) (by rw [← HN.out]; exact hlt)
      have hc1 := (hdr.cell _).trans (hcell k (by rw [← HN.out]; exact hlt))
      have hc0 := fun h => (hdr.cell _).trans (hcell (k - 1) h)
      clear hcell
      have HS := Lib.hid (szF_succ xs k)
      obtain ⟨q1, q2, q3, q4⟩ := HSB.out
      obtain ⟨g1, g2, g3⟩ := HP.out.1 k (by rw [← HN.out]; exact hlt)
      have hn6 := HP.out.len
      rw [← HN.out] at hn6
      generalize (szF xs k).1 = cnt at *
      generalize (szF xs k).2 = eqn at *
      have h4 : 0 ≤ cnt / gt xs k := Int.ediv_nonneg q1 (by omega)
      have h5 : cnt / gt xs k ≤ cnt := Int.ediv_le_self _ q1
      by_cases hk0 : k = 0
      · subst hk0
        rw [Nat.add_zero] at hc1
        clear hc0 g3
        obtain rfl : eqn = 0 := by omega
        go_wp2_with (first | go_quiet (fail))
        go_roundw
        case rel => exact ⟨1, by omega, by go_num, by rw [HS.out]; simp, by rw [HS.out]; simp, by repeat (first | assumption | refine DR.step ?_ _)⟩
        case measure => simp [intOf]; omega
      · have hk1 : 0 < k := by omega
        have hc2 := hc0 (by rw [← HN.out]; omega)
        clear hc0 g3
        have hs1 : IntKind.i64.wrap ((k : Int) - 1) = (k : Int) - 1 := IntWalk.i64_in _ (by omega)
        have hs2 : ((k : Int) - 1).toNat = k - 1 := by omega
        have hs3 : 1 ≤ (k : Int) := by omega
        have hs4 : 0 ≤ (k : Int) - 1 := by omega
        have hs5 : (k : Int) - 1 < n := by omega
        by_cases he : gt xs k = gt xs (k - 1)
        · have hx : (gt xs k != gt xs (k - 1)) = false := by simpa using he
          have HE := Lib.hid he
          clear he
          have h6 : 0 ≤ cnt / gt xs k / (eqn + 1) := Int.ediv_nonneg h4 (by omega)
          go_wp2_with (first | go_quiet (fail))
          go_roundw
          case rel => exact ⟨k + 1, by omega, by go_num, by rw [HS.out, if_pos ⟨hk1, HE.out⟩], by rw [HS.out, if_pos ⟨hk1, HE.out⟩], by repeat (first | assumption | refine DR.step ?_ _)⟩
          case measure => simp [intOf]; omega
        · have hx : (gt xs k != gt xs (k - 1)) = true := by simpa using he
          have HE := Lib.hid he
          clear he
          go_wp2_with (first | go_quiet (fail))
          go_roundw
          case rel => exact ⟨k + 1, by omega, by go_num, by rw [HS.out, if_neg (fun h => HE.out h.2)]; simp, by rw [HS.out, if_neg (fun h => HE.out h.2)], by repeat (first | assumption | refine DR.step ?_ _)⟩
          case measure => simp [intOf]; omega
    · obtain rfl : k = n := by omega
      go_wp2_with (fail)
      go_ret2
      exact ⟨ret_ii HV.out.symm HW.out.symm, hdr⟩
set_option maxHeartbeats 1000000 in
theorem i_SizeOfType (A : Option Addr) (n c : Nat) (xs : List Int) (w : World) (B : Nat) (hn : n = xs.length) (hl : n ≤ 1048576) (hs : IS w B A xs) :
    Calls Try.prog 36 #[.slice A n c] w (Q (.tuple #[.int .i64 (soV xs), .int .i64 (sgC xs)]) w) := by
  have HN := Lib.hid hn
  clear hn
  cases h1 : typeB xs
  · go_enter Try.func36, Try.ntmps36
    go_wp2_with (first | (go_at_call 21; refine (i_IsType _ _ _ xs _ B HN.out hl hs).mono ?_; rintro e w' ⟨rfl, nq, rfl⟩))
    go_ret2
    exact ⟨ret_ii (by simp [soV, h1]) (by simp [sgC, h1]), dq1⟩
  have hp := typeB_p h1
  have HB := Lib.hid hp.bd
  have HP := Lib.hid hp
  obtain ⟨hs1, hs2⟩ := hp.2
  have hv : soV xs = (szF xs xs.length).1 := by simp [soV, h1]
  have hw : sgC xs = 0 := by simp [sgC, h1]
  rw [← HN.out] at hv
  have HV := Lib.hid hv
  have HW := Lib.hid hw
  clear hv hw hp
  go_enter Try.func36, Try.ntmps36
  go_wp2_with (first | (go_at_call 21; refine (i_IsType _ _ _ xs _ B HN.out hl hs).mono ?_; rintro e w' ⟨rfl, nq, rfl⟩) | (go_at_call 47; refine (i_pointsOf _ _ _ xs _ B HN.out hl (hs.drewN _) HB.out).mono ?_; rintro e w' ⟨rfl, nq, rfl⟩) | (go_at_call 64; refine (i_factorial _ _ hs1 hs2).mono ?_; rintro e w' ⟨rfl, nq, rfl⟩))
  go_loopw [4, 5, 16] (fun u4 u5 u6 wr => ∃ k : Nat, k ≤ n ∧ u6 = .int .i64 k ∧ u4 = .int .i64 (szF xs k).1 ∧ u5 = .int .i64 (szF xs k).2 ∧ DR w wr) (fun _ _ u6 _ => n - (intOf u6).toNat)
  case atStart => exact ⟨0, Nat.zero_le _, rfl, rfl, rfl, ⟨_, rfl⟩⟩
  case round =>
    obtain ⟨k, hk, rfl, rfl, rfl, hdr⟩ := hrel
    have HSB := Lib.hid (szF_bd HP.out k (by rw [← HN.out]; exact hk))
    by_cases hlt : k < n
    · obtain ⟨b, off, rfl, hbb, hcell⟩ := IS.at hs (k := k) (by rw [← HN.out]; exact hlt)
      have hc1 := (hdr.cell _).trans (hcell k (by rw [← HN.out]; exact hlt))
      have hc0 := fun h => (hdr.cell _).trans (hcell (k - 1) h)
      clear hcell
      have HS := Lib.hid (szF_succ xs k)
      obtain ⟨q1, q2, q3, q4⟩ := HSB.out
      obtain ⟨g1, g2, g3⟩ := HP.out.1 k (by rw [← HN.out]; exact hlt)
      have hn6 := HP.out.len
      rw [← HN.out] at hn6
      generalize (szF xs k).1 = cnt at *
      generalize (szF xs k).2 = eqn at *
      by_cases hk0 : k = 0
      · subst hk0
        rw [Nat.add_zero] at hc1
        clear hc0 g3
        obtain rfl : eqn = 0 := by omega
        go_wp2_with (first | go_quiet (fail))
        go_roundw
        case rel => exact ⟨1, by omega, by go_num, by rw [HS.out]; simp, by rw [HS.out]; simp, by repeat (first | assumption | refine DR.step ?_ _)⟩
        case measure => simp [intOf]; omega
      · have hk1 : 0 < k := by omega
        have hc2 := hc0 (by rw [← HN.out]; omega)
        clear hc0 g3
        have hs1 : IntKind.i64.wrap ((k : Int) - 1) = (k : Int) - 1 := IntWalk.i64_in _ (by omega)
        have hs2 : ((k : Int) - 1).toNat = k - 1 := by omega
        have hs3 : 1 ≤ (k : Int) := by omega
        have hs4 : 0 ≤ (k : Int) - 1 := by omega
        have hs5 : (k : Int) - 1 < n := by omega
        by_cases he : gt xs k = gt xs (k - 1)
        · have hx : (gt xs k == gt xs (k - 1)) = true := by simpa using he
          have HE := Lib.hid he
          clear he
          have p1 : 1 * 1 ≤ gt xs k * (eqn + 1) := Int.mul_le_mul g1 (by omega) (by omega) (by omega)
          have p2 : gt xs k * (eqn + 1) ≤ 6 * 7 := Int.mul_le_mul g2 (by omega) (by omega) (by omega)
          go_wp2_with (first | go_quiet (fail))
          go_roundw
          case rel => exact ⟨k + 1, by omega, by go_num, by rw [HS.out, if_pos ⟨hk1, HE.out⟩, Int.ediv_ediv_of_nonneg (by omega)], by rw [HS.out, if_pos ⟨hk1, HE.out⟩], by repeat (first | assumption | refine DR.step ?_ _)⟩
          case measure => simp [intOf]; omega
        · have hx : (gt xs k == gt xs (k - 1)) = false := by simpa using he
          have HE := Lib.hid he
          clear he
          go_wp2_with (first | go_quiet (fail))
          go_roundw
          case rel => exact ⟨k + 1, by omega, by go_num, by rw [HS.out, if_neg (fun h => HE.out h.2)]; simp, by rw [HS.out, if_neg (fun h => HE.out h.2)], by repeat (first | assumption | refine DR.step ?_ _)⟩
          case measure => simp [intOf]; omega
    · obtain rfl : k = n := by omega
      go_wp2_with (fail)
      go_ret2
      exact ⟨ret_ii HV.out.symm HW.out.symm, hdr⟩
set_option maxHeartbeats 1000000 in
theorem law_SizeOfType (A : Option Addr) (n c : Nat) (xs : List Int) (w : World) (hn : n = xs.length) (hc : n ≤ c) (hm : c ≤ maxLen) (hr : R64 xs) (hs : IS w w.heap.size A xs) :
    Calls Try.prog 12 #[.slice A n c] w (M (.bool true) w) := by
  unfold maxLen at hm
  by_cases hbig : 1048576 < n
  · have HN := Lib.hid hn
    clear hn
    go_enter Try.func12, Try.ntmps12
    go_wp2_with (fail)
    go_ret
    exact ⟨rfl, Below.refl _ _⟩
  have HN := Lib.hid hn
  clear hn
  go_enter Try.func12, Try.ntmps12
  go_wp2_with (fail)
  refine (l_toInt64S A n c xs _ HN.out (by omega) hs).mono ?_
  rintro e w1 ⟨g1, rfl, hN1, hb1⟩
  go_wp2_with (fail)
  refine (s_SizeOfType _ _ _ xs _ w1.heap.size HN.out (by omega) hN1.is).mono ?_
  rintro e w2 ⟨rfl, nq, rfl⟩
  have hs2 := (hs.call hb1).drewN nq
  go_wp2_with (fail)
  refine (l_toInt64S A n c xs _ HN.out (by omega) hs2).mono ?_
  rintro e w3 ⟨g3, rfl, hN3, hb3⟩
  go_wp2_with (fail)
  refine (i_SizeOfType _ _ _ xs _ w3.heap.size HN.out (by omega) hN3.is).mono ?_
  rintro e w4 ⟨rfl, nq4, rfl⟩
  have hs4 := (hs2.call hb3).drewN nq4
  have hN4 := hN3.drewN nq4
  go_wp2_with (fail)
  refine (l_toInt64S A n c xs _ HN.out (by omega) hs4).mono ?_
  rintro e w5 ⟨g5, rfl, hN5, hb5⟩
  have hN6 := hN4.below hb5 hN4.lt
  go_wp2_with (fail)
  refine (l_eqInt64S _ _ n _ n _ xs _ w5.heap.size w5.heap.size HN.out HN.out (by omega) hN6.is hN5.is).mono ?_
  rintro e w6 ⟨rfl, nq6, rfl⟩
  go_wp2_with (fail)
  go_ret
  refine ⟨rfl, below_drewN ?_ _⟩
  refine bel_call ?_ hb5
  refine below_drewN ?_ _
  refine bel_call ?_ hb3
  refine below_drewN ?_ _
  exact hb1
end Go.Proofs.Ytflldjcnglchiaa

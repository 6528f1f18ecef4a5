/- Contracts and walks: IsType, SignOfType, SizeOfType. -/
import Derived.Test.YtcbjfdeigpdbdaaA4
namespace Go.Proofs.Ytcbjfdeigpdbdaa
set_option linter.unusedVariables false
set_option linter.unusedSimpArgs false
open Go.RowKit

/-- wr is w behind some draws. -/
def DR (w wr : World) : Prop := ∃ m, wr = w.drewN m
theorem DR.refl (w : World) : DR w w := ⟨0, rfl⟩
theorem DR.step {w wr : World} (h : DR w wr) (k : Nat) : DR w (wr.drewN k) := by
  obtain ⟨m, rfl⟩ := h; exact ⟨m + k, by rw [World.drewN_drewN]⟩
theorem DR.cell {w wr : World} (h : DR w wr) (a : Addr) : wr.cell? a = w.cell? a := by
  obtain ⟨m, rfl⟩ := h; rfl
theorem DR.out {w wr : World} (h : DR w wr) : ∃ m, wr = w.drewN m := h
theorem DR.more {w wr : World} {n : Nat} (h : DR (w.drewN n) wr) : DR w wr := by
  obtain ⟨m, rfl⟩ := h; exact ⟨n + m, by rw [World.drewN_drewN]⟩
/-- The list is a type: from 1 to 6, not falling, the sum from 1 to 6. -/
def TypeP (xs : List Int) : Prop := (∀ k, k < xs.length → 1 ≤ gt xs k ∧ gt xs k ≤ 6 ∧ (0 < k → gt xs (k - 1) ≤ gt xs k)) ∧ 1 ≤ xs.sum ∧ xs.sum ≤ 6
noncomputable def typeB (xs : List Int) : Bool := @decide (TypeP xs) (Classical.propDecidable _)
theorem typeB_t {xs : List Int} (h : TypeP xs) : true = typeB xs := by simp [typeB, h]
theorem typeB_f {xs : List Int} (h : ¬ TypeP xs) : false = typeB xs := by simp [typeB, h]
theorem typeB_p {xs : List Int} (h : typeB xs = true) : TypeP xs := by simpa [typeB] using h
def sumTo (xs : List Int) (k : Nat) : Int := (xs.take k).sum
theorem sumTo_zero (xs : List Int) : sumTo xs 0 = 0 := by simp [sumTo]
theorem sumTo_succ {xs : List Int} {k : Nat} (h : k < xs.length) : sumTo xs (k + 1) = sumTo xs k + gt xs k := by
  unfold sumTo gt
  rw [List.take_succ_eq_append_getElem h, List.sum_append, List.getD_eq_getElem?_getD, List.getElem?_eq_getElem h]
  simp
theorem sumTo_all (xs : List Int) : sumTo xs xs.length = xs.sum := by simp [sumTo]
theorem sumTo_bd {xs : List Int} {lo hi : Int} : ∀ k, k ≤ xs.length → (∀ j, j < k → lo ≤ gt xs j ∧ gt xs j ≤ hi) → lo * k ≤ sumTo xs k ∧ sumTo xs k ≤ hi * k := by
  intro k
  induction k with
  | zero => intro _ _; rw [sumTo_zero]; simp
  | succ k ih =>
    intro hk h
    have h1 := ih (by omega) (fun j hj => h j (by omega))
    have h2 := h k (by omega)
    rw [sumTo_succ (by omega)]
    have e1 : lo * ((k + 1 : Nat) : Int) = lo * k + lo := by rw [Int.natCast_succ, Int.mul_add, Int.mul_one]
    have e2 : hi * ((k + 1 : Nat) : Int) = hi * k + hi := by rw [Int.natCast_succ, Int.mul_add, Int.mul_one]
    omega
theorem sumTo_mono {xs : List Int} : ∀ m k, k ≤ m → m ≤ xs.length → (∀ j, j < xs.length → 0 ≤ gt xs j) → sumTo xs k ≤ sumTo xs m := by
  intro m
  induction m with
  | zero => intro k hk _ _; obtain rfl : k = 0 := by omega
            omega
  | succ m ih =>
    intro k hk hm h
    rcases Nat.lt_or_ge m k with h1 | h1
    · obtain rfl : k = m + 1 := by omega
      omega
    · have h2 := ih k h1 (by omega) h
      rw [sumTo_succ (by omega)]
      have := h m (by omega)
      omega
theorem TypeP.len {xs : List Int} (h : TypeP xs) : 1 ≤ xs.length ∧ xs.length ≤ 6 := by
  have h1 := sumTo_bd (xs := xs) (lo := 1) (hi := 6) xs.length (Nat.le_refl _) (fun j hj => ⟨(h.1 j hj).1, (h.1 j hj).2.1⟩)
  rw [sumTo_all] at h1
  have := h.2
  omega
set_option maxHeartbeats 1000000 in
theorem s_IsType (A : Option Addr) (n c : Nat) (xs : List Int) (w : World) (B : Nat) (hn : n = xs.length) (hl : n ≤ 1048576) (hs : IS w B A xs) :
    Calls Try.prog 75 #[.slice A n c] w (Q (.bool (typeB xs)) w) := by
  have HN := Lib.hid hn
  clear hn
  go_enter Try.func75, Try.ntmps75
  go_wp2_with (fail)
  go_loopw [3, 4] (fun u3 u4 wr => ∃ k : Nat, k ≤ n ∧ u4 = .int .i64 k ∧ u3 = .int .i64 (sumTo xs k) ∧ Hid (sumTo xs k ≤ 6 ∧ ∀ j, j < k → 1 ≤ gt xs j ∧ gt xs j ≤ 6 ∧ (0 < j → gt xs (j - 1) ≤ gt xs j)) ∧ DR w wr) (fun _ u4 _ => n - (intOf u4).toNat)
  case atStart => exact ⟨0, Nat.zero_le _, rfl, by rw [sumTo_zero], ⟨by rw [sumTo_zero]; omega, fun j hj => by omega⟩, DR.refl _⟩
  case round =>
    obtain ⟨k, hk, rfl, rfl, HR, hdr⟩ := hrel
    by_cases hlt : k < n
    · obtain ⟨b, off, rfl, hbb, hcell⟩ := IS.at hs (k := k) (by rw [← HN.out]; exact hlt)
      have hc1 := (hdr.cell _).trans (hcell k (by rw [← HN.out]; exact hlt))
      have hc0 := fun h => (hdr.cell _).trans (hcell (k - 1) h)
      have hsum := sumTo_bd (xs := xs) (lo := 1) (hi := 6) k (by rw [← HN.out]; omega) (fun j hj => ⟨(HR.out.2 j hj).1, (HR.out.2 j hj).2.1⟩)
      have hsk := HR.out.1
      have HS := Lib.hid (sumTo_succ (xs := xs) (k := k) (by rw [← HN.out]; exact hlt))
      clear hcell
      cases hin : inB (gt xs k) 1 6
      · clear hc0
        go_wp2_with (first | go_quiet ((go_at_call 50; exact Calls.quiet_of (s_l01In _ _ _ _))))
        go_ret
        refine ⟨ret_bool (typeB_f fun h => ?_), hdr.step _⟩
        have h1 := h.1 k (by rw [← HN.out]; exact hlt)
        rw [inB_mk h1.1 h1.2.1] at hin
        cases hin
      obtain ⟨b1, b2⟩ := inB_true hin
      by_cases hk0 : k = 0
      · subst hk0
        rw [Nat.add_zero] at hc1
        clear hc0
        have hz0 := sumTo_zero xs
        go_wp2_with (first | go_quiet ((go_at_call 50; exact Calls.quiet_of (s_l01In _ _ _ _))))
        go_roundw
        case rel => exact ⟨1, by omega, by go_num, by rw [HS.out, hz0, Int.zero_add], ⟨by rw [HS.out]; omega, fun j hj => by
          obtain rfl : j = 0 := by omega
          exact ⟨b1, b2, fun h => by omega⟩⟩, hdr.step _⟩
        case measure => simp [intOf]; omega
      · have hk1 : 0 < k := by omega
        have hc2 := hc0 (by rw [← HN.out]; omega)
        clear hc0
        have hs1 : IntKind.i64.wrap ((k : Int) - 1) = (k : Int) - 1 := IntWalk.i64_in _ (by omega)
        have hs2 : ((k : Int) - 1).toNat = k - 1 := by omega
        have hs3 : 1 ≤ (k : Int) := by omega
        have hs4 : 0 ≤ (k : Int) - 1 := by omega
        have hs5 : (k : Int) - 1 < n := by omega
        by_cases hlt2 : gt xs k < gt xs (k - 1)
        · go_wp2_with (first | go_quiet ((go_at_call 50; exact Calls.quiet_of (s_l01In _ _ _ _))))
          go_ret
          refine ⟨ret_bool (typeB_f fun h => ?_), hdr.step _⟩
          have := (h.1 k (by rw [← HN.out]; exact hlt)).2.2 hk1
          omega
        by_cases hbig : 6 < sumTo xs k + gt xs k
        · go_wp2_with (first | go_quiet ((go_at_call 50; exact Calls.quiet_of (s_l01In _ _ _ _))))
          go_ret
          refine ⟨ret_bool (typeB_f fun h => ?_), hdr.step _⟩
          have h1 := sumTo_mono (xs := xs) xs.length (k + 1) (by rw [← HN.out]; omega) (Nat.le_refl _) (fun j hj => by have := (h.1 j hj).1; omega)
          rw [HS.out, sumTo_all] at h1
          have := h.2.2
          omega
        · go_wp2_with (first | go_quiet ((go_at_call 50; exact Calls.quiet_of (s_l01In _ _ _ _))))
          go_roundw
          case rel => exact ⟨k + 1, by omega, by go_num, by rw [HS.out], ⟨by rw [HS.out]; omega, fun j hj => by
            by_cases hjk : j = k
            · subst hjk; exact ⟨b1, b2, fun _ => by omega⟩
            · exact HR.out.2 j (by omega)⟩, hdr.step _⟩
          case measure => simp [intOf]; omega
    · obtain rfl : k = n := by omega
      have hsk := HR.out.1
      go_wp2_with (fail)
      go_ret
      refine ⟨ret_bool ?_, hdr⟩
      by_cases hp : TypeP xs
      · rw [← typeB_t hp]
        have := hp.2.1
        rw [← sumTo_all, ← HN.out] at this
        simp; omega
      · rw [← typeB_f hp]
        simp
        refine Int.not_lt.1 fun hpos => hp ⟨fun j hj => HR.out.2 j (by rw [HN.out]; exact hj), ?_, ?_⟩
        · rw [← sumTo_all, ← HN.out]; omega
        · rw [← sumTo_all, ← HN.out]; omega
set_option maxHeartbeats 1000000 in
theorem s_l01Sum (A : Option Addr) (n c : Nat) (xs : List Int) (w : World) (B : Nat) (hn : n = xs.length) (hl : n ≤ 1048576) (hs : IS w B A xs) (hb : ∀ k, k < xs.length → -1000000000 ≤ gt xs k ∧ gt xs k ≤ 1000000000) :
    Calls Try.prog 76 #[.slice A n c] w (Q (.int .i64 xs.sum) w) := by
  have HN := Lib.hid hn
  have HB := Lib.hid hb
  clear hn hb
  go_enter Try.func76, Try.ntmps76
  go_wp2_with (fail)
  go_loopw [3, 4] (fun u3 u4 wr => ∃ k : Nat, k ≤ n ∧ u4 = .int .i64 k ∧ u3 = .int .i64 (sumTo xs k) ∧ DR w wr) (fun _ u4 _ => n - (intOf u4).toNat)
  case atStart => exact ⟨0, Nat.zero_le _, rfl, by rw [sumTo_zero], DR.refl _⟩
  case round =>
    obtain ⟨k, hk, rfl, rfl, hdr⟩ := hrel
    by_cases hlt : k < n
    · obtain ⟨b, off, rfl, hbb, hcell⟩ := IS.at hs (k := k) (by rw [← HN.out]; exact hlt)
      have hc1 := (hdr.cell _).trans (hcell k (by rw [← HN.out]; exact hlt))
      clear hcell
      have hsum := sumTo_bd (xs := xs) (lo := -1000000000) (hi := 1000000000) k (by rw [← HN.out]; omega) (fun j hj => HB.out j (by rw [← HN.out]; omega))
      obtain ⟨hg1, hg2⟩ := HB.out k (by rw [← HN.out]; exact hlt)
      have HS := Lib.hid (sumTo_succ (xs := xs) (k := k) (by rw [← HN.out]; exact hlt))
      go_wp2_with (go_quiet (fail))
      go_roundw
      case rel => exact ⟨k + 1, by omega, by go_num, by rw [HS.out], by repeat (first | assumption | refine DR.step ?_ _)⟩
      case measure => simp [intOf]; omega
    · obtain rfl : k = n := by omega
      go_wp2_with (fail)
      go_ret
      exact ⟨ret_int (by rw [HN.out, sumTo_all]), hdr⟩
set_option maxHeartbeats 1000000 in
theorem i_pointsOf (A : Option Addr) (n c : Nat) (xs : List Int) (w : World) (B : Nat) (hn : n = xs.length) (hl : n ≤ 1048576) (hs : IS w B A xs) (hb : ∀ k, k < xs.length → -1000000000 ≤ gt xs k ∧ gt xs k ≤ 1000000000) :
    Calls Try.prog 83 #[.slice A n c] w (Q (.int .i64 xs.sum) w) := by
  have HN := Lib.hid hn
  have HB := Lib.hid hb
  clear hn hb
  go_enter Try.func83, Try.ntmps83
  go_wp2_with (fail)
  go_loopw [3, 8] (fun u3 u4 wr => ∃ k : Nat, k ≤ n ∧ u4 = .int .i64 k ∧ u3 = .int .i64 (sumTo xs k) ∧ DR w wr) (fun _ u4 _ => n - (intOf u4).toNat)
  case atStart => exact ⟨0, Nat.zero_le _, rfl, by rw [sumTo_zero], DR.refl _⟩
  case round =>
    obtain ⟨k, hk, rfl, rfl, hdr⟩ := hrel
    by_cases hlt : k < n
    · obtain ⟨b, off, rfl, hbb, hcell⟩ := IS.at hs (k := k) (by rw [← HN.out]; exact hlt)
      have hc1 := (hdr.cell _).trans (hcell k (by rw [← HN.out]; exact hlt))
      clear hcell
      have hsum := sumTo_bd (xs := xs) (lo := -1000000000) (hi := 1000000000) k (by rw [← HN.out]; omega) (fun j hj => HB.out j (by rw [← HN.out]; omega))
      obtain ⟨hg1, hg2⟩ := HB.out k (by rw [← HN.out]; exact hlt)
      have HS := Lib.hid (sumTo_succ (xs := xs) (k := k) (by rw [← HN.out]; exact hlt))
      go_wp2_with (go_quiet (fail))
      go_roundw
      case rel => exact ⟨k + 1, by omega, by go_num, by rw [HS.out], by repeat (first | assumption | refine DR.step ?_ _)⟩
      case measure => simp [intOf]; omega
    · obtain rfl : k = n := by omega
      go_wp2_with (fail)
      go_ret
      exact ⟨ret_int (by rw [HN.out, sumTo_all]), hdr⟩
set_option maxHeartbeats 1000000 in
theorem i_IsType (A : Option Addr) (n c : Nat) (xs : List Int) (w : World) (B : Nat) (hn : n = xs.length) (hl : n ≤ 1048576) (hs : IS w B A xs) :
    Calls Try.prog 80 #[.slice A n c] w (Q (.bool (typeB xs)) w) := by
  have HN := Lib.hid hn
  clear hn
  go_enter Try.func80, Try.ntmps80
  go_wp2_with (fail)
  go_loopw [7] (fun u4 wr => ∃ k : Nat, k ≤ n ∧ u4 = .int .i64 k ∧ Hid (∀ j, j < k → 1 ≤ gt xs j ∧ gt xs j ≤ 6 ∧ (0 < j → gt xs (j - 1) ≤ gt xs j)) ∧ DR w wr) (fun u4 _ => n - (intOf u4).toNat)
  case atStart => exact ⟨0, Nat.zero_le _, rfl, fun j hj => by omega, DR.refl _⟩
  case round =>
    obtain ⟨k, hk, rfl, HR, hdr⟩ := hrel
    by_cases hlt : k < n
    · obtain ⟨b, off, rfl, hbb, hcell⟩ := IS.at hs (k := k) (by rw [← HN.out]; exact hlt)
      have hc1 := (hdr.cell _).trans (hcell k (by rw [← HN.out]; exact hlt))
      have hc0 := fun h => (hdr.cell _).trans (hcell (k - 1) h)
      clear hcell
      cases hin : inB (gt xs k) 1 6
      · clear hc0
        go_wp2_with (first | (go_at_call 53; refine (i_within _ _ _ _).mono ?_; rintro e w' ⟨rfl, nq, rfl⟩) | go_quiet ((go_at_call 53; exact Calls.quiet_of (i_within _ _ _ _))))
        go_ret
        refine ⟨ret_bool (typeB_f fun h => ?_), hdr.step _⟩
        have h1 := h.1 k (by rw [← HN.out]; exact hlt)
        rw [inB_mk h1.1 h1.2.1] at hin
        cases hin
      obtain ⟨b1, b2⟩ := inB_true hin
      by_cases hk0 : k = 0
      · subst hk0
        rw [Nat.add_zero] at hc1
        clear hc0
        go_wp2_with (first | (go_at_call 53; refine (i_within _ _ _ _).mono ?_; rintro e w' ⟨rfl, nq, rfl⟩) | go_quiet ((go_at_call 53; exact Calls.quiet_of (i_within _ _ _ _))))
        go_roundw
        case rel => exact ⟨1, by omega, by go_num, fun j hj => by
          obtain rfl : j = 0 := by omega
          exact ⟨b1, b2, fun h => by omega⟩, hdr.step _⟩
        case measure => simp [intOf]; omega
      · have hk1 : 0 < k := by omega
        have hc2 := hc0 (by rw [← HN.out]; omega)
        clear hc0
        have hs1 : IntKind.i64.wrap ((k : Int) - 1) = (k : Int) - 1 := IntWalk.i64_in _ (by omega)
        have hs2 : ((k : Int) - 1).toNat = k - 1 := by omega
        have hs3 : 1 ≤ (k : Int) := by omega
        have hs4 : 0 ≤ (k : Int) - 1 := by omega
        have hs5 : (k : Int) - 1 < n := by omega
        by_cases hlt2 : gt xs k < gt xs (k - 1)
        · go_wp2_with (first | (go_at_call 53; refine (i_within _ _ _ _).mono ?_; rintro e w' ⟨rfl, nq, rfl⟩) | go_quiet ((go_at_call 53; exact Calls.quiet_of (i_within _ _ _ _))))
          go_ret
          refine ⟨ret_bool (typeB_f fun h => ?_), hdr.step _⟩
          have := (h.1 k (by rw [← HN.out]; exact hlt)).2.2 hk1
          omega
        · go_wp2_with (first | (go_at_call 53; refine (i_within _ _ _ _).mono ?_; rintro e w' ⟨rfl, nq, rfl⟩) | go_quiet ((go_at_call 53; exact Calls.quiet_of (i_within _ _ _ _))))
          go_roundw
          case rel => exact ⟨k + 1, by omega, by go_num, fun j hj => by
            by_cases hjk : j = k
            · subst hjk; exact ⟨b1, b2, fun _ => by omega⟩
            · exact HR.out j (by omega), hdr.step _⟩
          case measure => simp [intOf]; omega
    · obtain rfl : k = n := by omega
      by_cases h6 : k ≤ 6
      · have hsm := fun w => i_pointsOf A k c xs w B HN.out (by omega)
        have HSM := Lib.hid hsm
        clear hsm
        have HIS : Hid (IS wr B A xs) := hidP (by obtain ⟨m, rfl⟩ := hdr; exact hs)
        go_wp2_with (first | (go_at_call 83; refine (HSM.out _ HIS.out (fun j hj => by have := HR.out j (by rw [HN.out]; exact hj); omega)).mono ?_; rintro e w' ⟨rfl, nq, rfl⟩) | (go_at_call 53; refine (i_within _ _ _ _).mono ?_; rintro e w' ⟨rfl, nq, rfl⟩))
        go_ret
        refine ⟨ret_bool ?_, by repeat (first | assumption | refine DR.step ?_ _)⟩
        by_cases hp : TypeP xs
        · rw [← typeB_t hp]
          exact inB_mk hp.2.1 hp.2.2
        · rw [← typeB_f hp]
          refine Bool.eq_false_iff.2 fun hx => hp ⟨fun j hj => HR.out j (by rw [HN.out]; exact hj), inB_true hx⟩
      · go_wp2_with (fail)
        go_ret
        refine ⟨ret_bool (typeB_f fun h => ?_), hdr⟩
        have := h.len
        rw [← HN.out] at this
        omega
end Go.Proofs.Ytcbjfdeigpdbdaa

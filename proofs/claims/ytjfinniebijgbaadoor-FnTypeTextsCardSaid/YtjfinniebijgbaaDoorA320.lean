/- ReadType: both sides. -/
import Derived.Test.YtjfinniebijgbaaDoorA318
namespace Go.Proofs.YtjfinniebijgbaaDoor
set_option linter.unusedVariables false
set_option linter.unusedSimpArgs false
open Go.RowKit
open Go.Lib hiding intOf

set_option maxHeartbeats 1000000 in
theorem s_IsTypeW (A : Option Addr) (n c : Nat) (xs : List Int) (w : World) (B : Nat) (hn : n = xs.length) (hl : n ≤ 2097152) (hs : IS w B A xs) :
    Calls Tryd.prog 21 #[.slice A n c] w (Q (.bool (typeB xs)) w) := by
  have HN := Lib.hid hn
  clear hn
  go_enter Tryd.func21, Tryd.ntmps21
  go_wp2_with (fail)
  go_loopw [3, 4] (fun u3 u4 wr => ∃ k : Nat, k ≤ n ∧ u4 = .int .i64 k ∧ u3 = .int .i64 (sumTo xs k) ∧ Hid (sumTo xs k ≤ 6 ∧ ∀ j, j < k → 1 ≤ gt xs j ∧ gt xs j ≤ 6 ∧ (0 < j → gt xs (j - 1) ≤ gt xs j)) ∧ DR w wr) (fun _ u4 _ => n - (intOf u4).toNat)
  case atStart => exact ⟨0, Nat.zero_le _, rfl, by rw [sumTo_zero], ⟨by rw [sumTo_zero]; omega, fun j hj => by omega⟩, DR.refl _⟩
  case round =>
    obtain ⟨k, hk, rfl, rfl, HR, hdr⟩ := hrel
    by_cases hlt : k < n
    · obtain ⟨b, off, rfl, hbb, hcell⟩ := IS.at hs (k := k) (by rw [← HN.out]; exact hlt)
      have hc1 := (hdr.cell _).trans (hcell k (by rw [← HN.out]; exact hlt))
      have hc0 := fun h => (hdr.cell _).trans (hcell (k - 1) h)
      have hsum := sumTo_bd (xs := xs) (lo := 1) (hi := 6) k (by rw [← HN.out]; omega) (fun j hj => ⟨(HR.out.2 j hj).1, (HR.out.2 j hj).2.1⟩)
      have hsk := HR.out.1
      have HS := Lib.hid (sumTo_succ (xs := xs) (k := k) (by rw [← HN.out]; exact hlt))
      clear hcell
      cases hin : inB (gt xs k) 1 6
      · clear hc0
        go_wp2_with (first | go_quiet ((go_at_call 38; exact Calls.quiet_of (s_l01In _ _ _ _))))
        go_ret
        refine ⟨ret_bool (typeB_f fun h => ?_), hdr.step _⟩
        have h1 := h.1 k (by rw [← HN.out]; exact hlt)
        rw [inB_mk h1.1 h1.2.1] at hin
        cases hin
      obtain ⟨b1, b2⟩ := inB_true hin
      by_cases hk0 : k = 0
      · subst hk0
        rw [Nat.add_zero] at hc1
        clear hc0
        have hz0 := sumTo_zero xs
        go_wp2_with (first | go_quiet ((go_at_call 38; exact Calls.quiet_of (s_l01In _ _ _ _))))
        go_roundw
        case rel => exact ⟨1, by omega, by go_num, by rw [HS.out, hz0, Int.zero_add], ⟨by rw [HS.out]; omega, fun j hj => by
          obtain rfl : j = 0 := by omega
          exact ⟨b1, b2, fun h => by omega⟩⟩, hdr.step _⟩
        case measure => simp [intOf]; omega
      · have hk1 : 0 < k := by omega
        have hc2 := hc0 (by rw [← HN.out]; omega)
        clear hc0
        have hs1 : IntKind.i64.wrap ((k : Int) - 1) = (k : Int) - 1 := IntWalk.i64_in _ (by omega)
        have hs2 : ((k : Int) - 1).toNat = k - 1 := by omega
        have hs3 : 1 ≤ (k : Int) := by omega
        have hs4 : 0 ≤ (k : Int) - 1 := by omega
        have hs5 : (k : Int) - 1 < n := by omega
        by_cases hlt2 : gt xs k < gt xs (k - 1)
        · go_wp2_with (first | go_quiet ((go_at_call 38; exact Calls.quiet_of (s_l01In _ _ _ _))))
          go_ret
          refine ⟨ret_bool (typeB_f fun h => ?_), hdr.step _⟩
          have := (h.1 k (by rw [← HN.out]; exact hlt)).2.2 hk1
          omega
        by_cases hbig : 6 < sumTo xs k + gt xs k
        · go_wp2_with (first | go_quiet ((go_at_call 38; exact Calls.quiet_of (s_l01In _ _ _ _))))
          go_ret
          refine ⟨ret_bool (typeB_f fun h => ?_), hdr.step _⟩
          have h1 := sumTo_mono (xs := xs) xs.length (k + 1) (by rw [← HN.out]; omega) (Nat.le_refl _) (fun j hj => by have := (h.1 j hj).1; omega)
          rw [HS.out, sumTo_all] at h1
          have := h.2.2
          omega
        · go_wp2_with (first | go_quiet ((go_at_call 38; exact Calls.quiet_of (s_l01In _ _ _ _))))
          go_roundw
          case rel => exact ⟨k + 1, by omega, by go_num, by rw [HS.out], ⟨by rw [HS.out]; omega, fun j hj => by
            by_cases hjk : j = k
            · subst hjk; exact ⟨b1, b2, fun _ => by omega⟩
            · exact HR.out.2 j (by omega)⟩, hdr.step _⟩
          case measure => simp [intOf]; omega
    · obtain rfl : k = n := by omega
      have hsk := HR.out.1
      go_wp2_with (fail)
      go_ret
      refine ⟨ret_bool ?_, hdr⟩
      by_cases hp : TypeP xs
      · rw [← typeB_t hp]
        have := hp.2.1
        rw [← sumTo_all, ← HN.out] at this
        simp; omega
      · rw [← typeB_f hp]
        simp
        refine Int.not_lt.1 fun hpos => hp ⟨fun j hj => HR.out.2 j (by rw [HN.out]; exact hj), ?_, ?_⟩
        · rw [← sumTo_all, ← HN.out]; omega
        · rw [← sumTo_all, ← HN.out]; omega
set_option maxHeartbeats 1000000 in
theorem i_IsTypeW (A : Option Addr) (n c : Nat) (xs : List Int) (w : World) (B : Nat) (hn : n = xs.length) (hl : n ≤ 2097152) (hs : IS w B A xs) :
    Calls Tryd.prog 23 #[.slice A n c] w (Q (.bool (typeB xs)) w) := by
  have HN := Lib.hid hn
  clear hn
  go_enter Tryd.func23, Tryd.ntmps23
  go_wp2_with (fail)
  go_loopw [7] (fun u4 wr => ∃ k : Nat, k ≤ n ∧ u4 = .int .i64 k ∧ Hid (∀ j, j < k → 1 ≤ gt xs j ∧ gt xs j ≤ 6 ∧ (0 < j → gt xs (j - 1) ≤ gt xs j)) ∧ DR w wr) (fun u4 _ => n - (intOf u4).toNat)
  case atStart => exact ⟨0, Nat.zero_le _, rfl, fun j hj => by omega, DR.refl _⟩
  case round =>
    obtain ⟨k, hk, rfl, HR, hdr⟩ := hrel
    by_cases hlt : k < n
    · obtain ⟨b, off, rfl, hbb, hcell⟩ := IS.at hs (k := k) (by rw [← HN.out]; exact hlt)
      have hc1 := (hdr.cell _).trans (hcell k (by rw [← HN.out]; exact hlt))
      have hc0 := fun h => (hdr.cell _).trans (hcell (k - 1) h)
      clear hcell
      cases hin : inB (gt xs k) 1 6
      · clear hc0
        go_wp2_with (first | (go_at_call 40; refine (i_within _ _ _ _).mono ?_; rintro e w' ⟨rfl, nq, rfl⟩) | go_quiet ((go_at_call 40; exact Calls.quiet_of (i_within _ _ _ _))))
        go_ret
        refine ⟨ret_bool (typeB_f fun h => ?_), hdr.step _⟩
        have h1 := h.1 k (by rw [← HN.out]; exact hlt)
        rw [inB_mk h1.1 h1.2.1] at hin
        cases hin
      obtain ⟨b1, b2⟩ := inB_true hin
      by_cases hk0 : k = 0
      · subst hk0
        rw [Nat.add_zero] at hc1
        clear hc0
        go_wp2_with (first | (go_at_call 40; refine (i_within _ _ _ _).mono ?_; rintro e w' ⟨rfl, nq, rfl⟩) | go_quiet ((go_at_call 40; exact Calls.quiet_of (i_within _ _ _ _))))
        go_roundw
        case rel => exact ⟨1, by omega, by go_num, fun j hj => by
          obtain rfl : j = 0 := by omega
          exact ⟨b1, b2, fun h => by omega⟩, hdr.step _⟩
        case measure => simp [intOf]; omega
      · have hk1 : 0 < k := by omega
        have hc2 := hc0 (by rw [← HN.out]; omega)
        clear hc0
        have hs1 : IntKind.i64.wrap ((k : Int) - 1) = (k : Int) - 1 := IntWalk.i64_in _ (by omega)
        have hs2 : ((k : Int) - 1).toNat = k - 1 := by omega
        have hs3 : 1 ≤ (k : Int) := by omega
        have hs4 : 0 ≤ (k : Int) - 1 := by omega
        have hs5 : (k : Int) - 1 < n := by omega
        by_cases hlt2 : gt xs k < gt xs (k - 1)
        · go_wp2_with (first | (go_at_call 40; refine (i_within _ _ _ _).mono ?_; rintro e w' ⟨rfl, nq, rfl⟩) | go_quiet ((go_at_call 40; exact Calls.quiet_of (i_within _ _ _ _))))
          go_ret
          refine ⟨ret_bool (typeB_f fun h => ?_), hdr.step _⟩
          have := (h.1 k (by rw [← HN.out]; exact hlt)).2.2 hk1
          omega
        · go_wp2_with (first | (go_at_call 40; refine (i_within _ _ _ _).mono ?_; rintro e w' ⟨rfl, nq, rfl⟩) | go_quiet ((go_at_call 40; exact Calls.quiet_of (i_within _ _ _ _))))
          go_roundw
          case rel => exact ⟨k + 1, by omega, by go_num, fun j hj => by
            by_cases hjk : j = k
            · subst hjk; exact ⟨b1, b2, fun _ => by omega⟩
            · exact HR.out j (by omega), hdr.step _⟩
          case measure => simp [intOf]; omega
    · obtain rfl : k = n := by omega
      by_cases h6 : k ≤ 6
      · have hsm := fun w => i_pointsOf A k c xs w B HN.out (by omega)
        have HSM := Lib.hid hsm
        clear hsm
        have HIS : Hid (IS wr B A xs) := hidP (by obtain ⟨m, rfl⟩ := hdr; exact hs)
        go_wp2_with (first | (go_at_call 41; refine (HSM.out _ HIS.out (fun j hj => by have := HR.out j (by rw [HN.out]; exact hj); omega)).mono ?_; rintro e w' ⟨rfl, nq, rfl⟩) | (go_at_call 40; refine (i_within _ _ _ _).mono ?_; rintro e w' ⟨rfl, nq, rfl⟩))
        go_ret
        refine ⟨ret_bool ?_, by repeat (first | assumption | refine DR.step ?_ _)⟩
        by_cases hp : TypeP xs
        · rw [← typeB_t hp]
          exact inB_mk hp.2.1 hp.2.2
        · rw [← typeB_f hp]
          refine Bool.eq_false_iff.2 fun hx => hp ⟨fun j hj => HR.out j (by rw [HN.out]; exact hj), inB_true hx⟩
      · go_wp2_with (fail)
        go_ret
        refine ⟨ret_bool (typeB_f fun h => ?_), hdr⟩
        have := h.len
        rw [← HN.out] at this
        omega
theorem dec_sg {m : Nat} (h : m < 10) : sgB (decDigits m) = true ∧ sgN (decDigits m) = (m : Int) := by
  obtain ⟨h1, h2, h3⟩ := dec_digits (m + 1) m (by omega)
  have hl : (decDigits m).length = 1 := by rw [decDigits_one h]; rfl
  have hn : numB (decDigits m) = true := numB_mk (by omega) (by omega) h1 (by rw [h2])
  obtain ⟨c, r, hc, hd, _⟩ := num_head hn
  have hc45 : c ≠ 45 := fun e => by
    rw [e] at hd
    have : (45 : UInt8).toNat = 45 := rfl
    omega
  rw [hc] at hn h2 ⊢
  rw [sgB, if_neg hc45, sgN, if_neg hc45, h2]
  exact ⟨hn, rfl⟩
theorem itx_sg {xs : List Int} (h : TypeP xs) : ((itx xs).all sgB) = true ∧ (itx xs).map sgN = xs := by
  have hb : ∀ x ∈ xs, 1 ≤ x ∧ x ≤ 6 := fun x hx => by
    obtain ⟨k, hk, e⟩ := List.mem_iff_getElem.1 hx
    have := h.1 k hk
    have hg : gt xs k = x := by simp [gt, List.getElem?_eq_getElem hk, e]
    rw [hg] at this
    omega
  constructor
  · rw [List.all_eq_true]
    intro l hl
    unfold itx at hl
    rw [List.mem_map] at hl
    obtain ⟨x, hx, rfl⟩ := hl
    have := hb x hx
    obtain ⟨m, rfl⟩ : ∃ m : Nat, x = m := ⟨x.toNat, by omega⟩
    rw [itoa_nonneg]
    exact (dec_sg (by omega)).1
  · unfold itx
    rw [List.map_map]
    conv => rhs; rw [← List.map_id xs]
    apply List.map_congr_left
    intro x hx
    have := hb x hx
    obtain ⟨m, rfl⟩ : ∃ m : Nat, x = m := ⟨x.toNat, by omega⟩
    show sgN (itoa (m : Int)) = (m : Int)
    rw [itoa_nonneg]
    exact (dec_sg (by omega)).2
/-- The numbers that the program reads of a text. -/
def cyR (l : List UInt8) : List Int := (spl 46 l).map rdN
def ouS (l : List UInt8) : List Int := (spl 46 l).map sgN
noncomputable def rtyB (l : List UInt8) : Bool := typeB (cyR l) && (jn 46 (itx (cyR l)) == l)
noncomputable def rtyL (l : List UInt8) : List Int := if rtyB l then cyR l else []
noncomputable def rtyC (l : List UInt8) : Int := if rtyB l then 0 else 6
theorem cy_ou {l : List UInt8} (h : ((spl 46 l).all sgB) = true) : cyR l = ouS l := by
  unfold cyR ouS
  apply List.map_congr_left
  intro x hx
  exact sg_rd (List.all_eq_true.1 h x hx)
theorem rty_sg {l : List UInt8} (h : rtyB l = true) : ((spl 46 l).all sgB) = true := by
  unfold rtyB at h
  rw [Bool.and_eq_true, beq_iff_eq] at h
  obtain ⟨h1, h2⟩ := h
  have ht := typeB_p h1
  have hne : itx (cyR l) ≠ [] := fun e => by
    have := congrArg List.length e
    rw [itx_len, List.length_nil] at this
    have := ht.len.1
    omega
  have hs : spl 46 l = itx (cyR l) := by
    conv => lhs; rw [← h2]
    exact spl_jn hne (fun l' hl x hx => ((itx_one ht l' hl).2 x hx).2)
  rw [hs]
  exact (itx_sg ht).1
/-- The reference's own test. -/
theorem rty_ou (l : List UInt8) : rtyB l = (((spl 46 l).all sgB) && (typeB (ouS l) && (jn 46 (itx (ouS l)) == l))) := by
  cases hs : (spl 46 l).all sgB
  · rw [Bool.false_and, Bool.eq_false_iff]
    intro h
    rw [rty_sg h] at hs
    cases hs
  · rw [Bool.true_and, ← cy_ou hs]
    rfl
theorem rtyL_len (l : List UInt8) : (rtyL l).length ≤ 6 := by
  unfold rtyL
  split
  · rename_i h
    unfold rtyB at h
    rw [Bool.and_eq_true] at h
    exact (typeB_p h.1).len.2
  · simp
end Go.Proofs.YtjfinniebijgbaaDoor

/- Contracts and walk: PrimitivePart. -/
import Derived.Test.YtlhkpepnklbnfaaA20
import Derived.Test.YtlhkpepnklbnfaaA16
import Derived.Test.YtlhkpepnklbnfaaA13
namespace Go.Proofs.Ytlhkpepnklbnfaa
set_option linter.unusedVariables false
set_option linter.unusedSimpArgs false
open Go.RowKit

/-- The common divisor of the first k numbers. -/
def cont (xs : List Int) : Nat → Nat
  | 0 => 0
  | k + 1 => Int.gcd (cont xs k) (gt xs k)
theorem cont_succ (xs : List Int) (k : Nat) : cont xs (k + 1) = Int.gcd (cont xs k) (gt xs k) := rfl
theorem cont_le {xs : List Int} {m : Nat} : ∀ k, (∀ j, j < k → (gt xs j).natAbs ≤ m) → cont xs k ≤ m := by
  intro k
  induction k with
  | zero => intro _; simp [cont]
  | succ k ih =>
    intro h
    have h1 := ih (fun j hj => h j (by omega))
    have h2 := h k (by omega)
    rw [cont_succ]
    by_cases h0 : gt xs k = 0
    · rw [h0]; simpa using h1
    · have := Nat.le_of_dvd (by omega) (Nat.gcd_dvd_right (Int.natAbs (cont xs k)) (gt xs k).natAbs)
      unfold Int.gcd
      omega
theorem cont_pos {xs : List Int} {k : Nat} (h : gt xs k ≠ 0) : 0 < cont xs (k + 1) := by
  rw [cont_succ]
  exact Int.gcd_pos_of_ne_zero_right _ h
def contI (xs : List Int) : Int := if lastI xs < 0 then -(cont xs xs.length : Int) else (cont xs xs.length : Int)
def prim (xs : List Int) : List Int := xs.map fun x => x.tdiv (contI xs)
theorem prim_len (xs : List Int) : (prim xs).length = xs.length := by simp [prim]
def primTo (xs : List Int) (k : Nat) : List Int := (xs.take k).map fun x => x.tdiv (contI xs)
theorem primTo_succ {xs : List Int} {k : Nat} (h : k < xs.length) : primTo xs (k + 1) = primTo xs k ++ [(gt xs k).tdiv (contI xs)] := by
  unfold primTo
  rw [List.take_succ_eq_append_getElem h, List.map_append]
  simp [gt, List.getElem?_eq_getElem h]
theorem primTo_len {xs : List Int} {k : Nat} (h : k ≤ xs.length) : (primTo xs k).length = k := by simp [primTo]; omega
theorem primTo_all (xs : List Int) : primTo xs xs.length = prim xs := by simp [primTo, prim]
set_option maxHeartbeats 1000000 in
theorem s_l06Content (A : Option Addr) (n c : Nat) (xs : List Int) (w : World) (B : Nat) (hn : n = xs.length) (hl : n ≤ 1048576) (hs : IS w B A xs) (hall : ∀ k, k < xs.length → -1000000 ≤ gt xs k ∧ gt xs k ≤ 1000000) :
    Calls Try.prog 131 #[.slice A n c] w (Q (.int .i64 (cont xs xs.length : Nat)) w) := by
  have HN := Lib.hid hn
  have HB := Lib.hid hall
  clear hn hall
  go_enter Try.func131, Try.ntmps131
  go_wp2_with (fail)
  go_loopw [3, 4] (fun u3 u4 wr => ∃ k : Nat, k ≤ n ∧ u4 = .int .i64 k ∧ u3 = .int .i64 (cont xs k : Nat) ∧ DR w wr) (fun _ u4 _ => n - (intOf u4).toNat)
  case atStart => exact ⟨0, Nat.zero_le _, rfl, rfl, DR.refl _⟩
  case round =>
    obtain ⟨k, hk, rfl, rfl, hdr⟩ := hrel
    by_cases hlt : k < n
    · obtain ⟨b, off, rfl, hbb, hcell⟩ := IS.at hs (k := k) (by rw [← HN.out]; exact hlt)
      have hc1 := (hdr.cell _).trans (hcell k (by rw [← HN.out]; exact hlt))
      clear hcell
      have hcl := cont_le (xs := xs) (m := 1000000) k (fun j hj => by have := HB.out j (by rw [← HN.out]; omega); omega)
      obtain ⟨hg1, hg2⟩ := HB.out k (by rw [← HN.out]; exact hlt)
      have HS := Lib.hid (cont_succ xs k)
      go_wp2_with (first | (go_at_call 105; refine (s_l01Gcd _ _ _ (by omega) (by omega) (by omega) (by omega)).mono ?_; rintro e w' ⟨rfl, nq, rfl⟩) | go_quiet ((go_at_call 105; exact Calls.quiet_of (s_l01Gcd _ _ _ (by omega) (by omega) (by omega) (by omega)))))
      go_roundw
      case rel => exact ⟨k + 1, by omega, by go_num, by rw [HS.out], by repeat (first | assumption | refine DR.step ?_ _)⟩
      case measure => simp [intOf]; omega
    · obtain rfl : k = n := by omega
      go_wp2_with (fail)
      go_ret
      exact ⟨ret_int (by rw [HN.out]), hdr⟩
set_option maxHeartbeats 1000000 in
theorem i_content (A : Option Addr) (n c : Nat) (xs : List Int) (w : World) (B : Nat) (hn : n = xs.length) (hl : n ≤ 1048576) (hs : IS w B A xs) (hall : ∀ k, k < xs.length → -1000000 ≤ gt xs k ∧ gt xs k ≤ 1000000) :
    Calls Try.prog 119 #[.slice A n c] w (Q (.int .i64 (cont xs xs.length : Nat)) w) := by
  have HN := Lib.hid hn
  have HB := Lib.hid hall
  clear hn hall
  go_enter Try.func119, Try.ntmps119
  go_wp2_with (fail)
  go_loopw [3, 8] (fun u3 u4 wr => ∃ k : Nat, k ≤ n ∧ u4 = .int .i64 k ∧ u3 = .int .i64 (cont xs k : Nat) ∧ DR w wr) (fun _ u4 _ => n - (intOf u4).toNat)
  case atStart => exact ⟨0, Nat.zero_le _, rfl, rfl, DR.refl _⟩
  case round =>
    obtain ⟨k, hk, rfl, rfl, hdr⟩ := hrel
    by_cases hlt : k < n
    · obtain ⟨b, off, rfl, hbb, hcell⟩ := IS.at hs (k := k) (by rw [← HN.out]; exact hlt)
      have hc1 := (hdr.cell _).trans (hcell k (by rw [← HN.out]; exact hlt))
      clear hcell
      have hcl := cont_le (xs := xs) (m := 1000000) k (fun j hj => by have := HB.out j (by rw [← HN.out]; omega); omega)
      obtain ⟨hg1, hg2⟩ := HB.out k (by rw [← HN.out]; exact hlt)
      have HS := Lib.hid (cont_succ xs k)
      go_wp2_with (first | (go_at_call 107; refine (i_gcd _ _ _ (by omega) (by omega) (by omega) (by omega)).mono ?_; rintro e w' ⟨rfl, nq, rfl⟩) | go_quiet ((go_at_call 107; exact Calls.quiet_of (i_gcd _ _ _ (by omega) (by omega) (by omega) (by omega)))))
      go_roundw
      case rel => exact ⟨k + 1, by omega, by go_num, by rw [HS.out], by repeat (first | assumption | refine DR.step ?_ _)⟩
      case measure => simp [intOf]; omega
    · obtain rfl : k = n := by omega
      go_wp2_with (fail)
      go_ret
      exact ⟨ret_int (by rw [HN.out]), hdr⟩
set_option maxHeartbeats 1000000 in
theorem s_l26Integer (A : Option Addr) (n c : Nat) (xs : List Int) (w : World) (B : Nat) (hn : n = xs.length) (hl : n ≤ 1048576) (hs : IS w B A xs) (hall : ∀ k, k < xs.length → -1000000 ≤ gt xs k ∧ gt xs k ≤ 1000000) (h0 : 0 < n) :
    Calls Try.prog 115 #[.slice A n c] w (Q (.int .i64 (contI xs)) w) := by
  have HN := Lib.hid hn
  have HB := Lib.hid hall
  have hcl := cont_le (xs := xs) (m := 1000000) xs.length (fun j hj => by have := HB.out j hj; omega)
  clear hn hall
  obtain ⟨b, off, rfl, hcl2⟩ := hs.last HN.out h0
  have hs1 : IntKind.i64.wrap ((n : Int) - 1) = (n : Int) - 1 := IntWalk.i64_in _ (by omega)
  have hs2 : ((n : Int) - 1).toNat = n - 1 := by omega
  have hs3 : 1 ≤ (n : Int) := by omega
  have hs4 : 0 ≤ (n : Int) - 1 := by omega
  by_cases hneg : lastI xs < 0
  · have HX : Hid (contI xs = -(cont xs xs.length : Int)) := by unfold Hid contI; rw [if_pos hneg]
    go_enter Try.func115, Try.ntmps115
    go_wp2_with (first | (go_at_call 131; refine (s_l06Content _ _ _ xs _ B HN.out hl hs HB.out).mono ?_; rintro e w' ⟨rfl, nq, rfl⟩) | go_quiet (fail))
    go_ret
    exact ⟨ret_int (by rw [HX.out]), by first | exact dq1 | exact dq2⟩
  · have HX : Hid (contI xs = (cont xs xs.length : Int)) := by unfold Hid contI; rw [if_neg hneg]
    have hpos : 0 ≤ lastI xs := by omega
    clear hneg
    go_enter Try.func115, Try.ntmps115
    go_wp2_with (first | (go_at_call 131; refine (s_l06Content _ _ _ xs _ B HN.out hl hs HB.out).mono ?_; rintro e w' ⟨rfl, nq, rfl⟩) | go_quiet (fail))
    go_ret
    exact ⟨ret_int (by rw [HX.out]), by first | exact dq1 | exact dq2⟩
set_option maxHeartbeats 2000000 in
theorem s_l26Primitive (A : Option Addr) (n c : Nat) (xs : List Int) (w : World) (hn : n = xs.length) (hl : n ≤ 1048576) (hs : IS w w.heap.size A xs) (hall : ∀ k, k < xs.length → -1000000 ≤ gt xs k ∧ gt xs k ≤ 1000000) (h0 : 0 < n) (hlast : lastI xs ≠ 0) :
    Calls Try.prog 79 #[.slice A n c] w (RV (prim xs) w) := by
  have HN := Lib.hid hn
  have HB := Lib.hid hall
  have hcl := cont_le (xs := xs) (m := 1000000) xs.length (fun j hj => by have := HB.out j hj; omega)
  have hcp : 0 < cont xs xs.length := by
    obtain ⟨m, hm⟩ : ∃ m, xs.length = m + 1 := ⟨xs.length - 1, by omega⟩
    rw [hm]
    refine cont_pos ?_
    unfold lastI at hlast
    rwa [hm] at hlast
  have hnz : contI xs ≠ 0 := by unfold contI; split <;> omega
  have HNZ := Lib.hid hnz
  have hcb : -1000000 ≤ contI xs ∧ contI xs ≤ 1000000 := by unfold contI; split <;> omega
  obtain ⟨hcb1, hcb2⟩ := hcb
  clear hn hall hnz
  obtain ⟨i0, hi, hz0, hz1, hz2⟩ := info_parts infoI64
  clear hcl hcp hlast
  go_enter Try.func79, Try.ntmps79
  go_wp2_with (first | (go_at_call 115; refine (s_l26Integer _ _ _ xs _ _ HN.out hl hs HB.out h0).mono ?_; rintro e w' ⟨rfl, nq, rfl⟩))
  go_loopw [4, 5] (fun u4 u5 wr => ∃ k : Nat, k ≤ n ∧ u5 = .int .i64 k ∧ wr.ownsRow w.heap.size 2 1 u4 k (ints (primTo xs k)) ∧ Below w.heap.size w wr) (fun _ u5 _ => n - (intOf u5).toNat)
  case atStart => exact ⟨0, Nat.zero_le _, rfl, World.ownsRow_lit (base := w.heap.size) (size := 1) (e := 2) (w.drewN nq) #[] 0 (Nat.le_refl _) (by simp [maxLen]) rfl, below_drewN ((Below.refl _ _).alloc (Nat.le_refl _) _) _⟩
  case round =>
    obtain ⟨k, hk, rfl, hown, hb⟩ := hrel
    obtain ⟨A1, c1, rfl, _⟩ := own_slice' hown
    obtain ⟨wo, rfl⟩ : ∃ wo : World, wo = wr := ⟨_, rfl⟩
    have hsz := hb.size
    by_cases hlt : k < n
    · obtain ⟨b, off, rfl, hbb, hcell⟩ := IS.at hs (k := k) (by rw [← HN.out]; exact hlt)
      have hc1 := (hb.cell (p := ⟨b, off + k, none⟩) hbb).trans (hcell k (by rw [← HN.out]; exact hlt))
      clear hcell
      obtain ⟨hg1, hg2⟩ := HB.out k (by rw [← HN.out]; exact hlt)
      have hnz : contI xs ≠ 0 := HNZ.out
      have hta : ((gt xs k).tdiv (contI xs)).natAbs ≤ (gt xs k).natAbs := by rw [Int.natAbs_tdiv]; exact Nat.div_le_self _ _
      have ht1 : -1000000 ≤ (gt xs k).tdiv (contI xs) := by omega
      have ht2 : (gt xs k).tdiv (contI xs) ≤ 1000000 := by omega
      have HPS := Lib.hid (primTo_succ (xs := xs) (k := k) (by rw [← HN.out]; exact hlt))
      clear hta
      go_wp2_with (first | go_quiet (fail) | (at_builtin; refine wpList_append_src rfl (.tmp 15) (.tmp 22) 29 rfl w.heap.size 2 i0 (.int .i64 0) 1 8 Try.underlying29 hi hz0 hz1 hz2 rfl (by omega) (.slice A1 k c1) k (ints (primTo xs k)) rfl (World.ownsRow.alloc hown _) (some ⟨wo.heap.size, 0, none⟩) 1 1 [.int .i64 ((gt xs k).tdiv (contI xs))] rfl rfl (one_src wo _ _) (by intro h; cases h) (by intro u hu; simp at hu; subst hu; rfl) (by simp only [maxLen]; omega) (by omega) (by simp; omega) ?_; intro v2 w3 hown2 hg2 hat2))
      have hb3 : Below w.heap.size w w3 := (hb.alloc hb.size _).grown hg2 (by simp; omega) (fun g hg => (hown.lt g hg).1)
      clear hat2
      go_roundw
      case rel => exact ⟨k + 1, by omega, by go_num, by rw [HPS.out]; simpa [ints] using hown2, hb3⟩
      case measure => simp [intOf]; omega
    · obtain rfl : k = n := by omega
      go_wp2_with (fail)
      go_ret
      have hL : k = (prim xs).length := by rw [prim_len]; exact HN.out
      rw [HN.out, primTo_all, ← HN.out, hL] at hown
      rw [hL]
      exact ⟨_, _, rfl, hown, hb⟩
set_option maxHeartbeats 2000000 in
theorem i_primitive (A : Option Addr) (n c : Nat) (xs : List Int) (w : World) (hn : n = xs.length) (hl : n ≤ 1048576) (hs : IS w w.heap.size A xs) (hall : ∀ k, k < xs.length → -1000000 ≤ gt xs k ∧ gt xs k ≤ 1000000) (h0 : 0 < n) (hlast : lastI xs ≠ 0) :
    Calls Try.prog 82 #[.slice A n c] w (RV (prim xs) w) := by
  have HN := Lib.hid hn
  have HB := Lib.hid hall
  have hcl := cont_le (xs := xs) (m := 1000000) xs.length (fun j hj => by have := HB.out j hj; omega)
  have hcp : 0 < cont xs xs.length := by
    obtain ⟨m, hm⟩ : ∃ m, xs.length = m + 1 := ⟨xs.length - 1, by omega⟩
    rw [hm]
    refine cont_pos ?_
    unfold lastI at hlast
    rwa [hm] at hlast
  have hnz : contI xs ≠ 0 := by unfold contI; split <;> omega
  have HNZ := Lib.hid hnz
  have hcb : -1000000 ≤ contI xs ∧ contI xs ≤ 1000000 := by unfold contI; split <;> omega
  obtain ⟨hcb1, hcb2⟩ := hcb
  clear hn hall hnz
  obtain ⟨i0, hi, hz0, hz1, hz2⟩ := info_parts infoI64
  clear hcp hlast
  have hs1 : IntKind.i64.wrap ((n : Int) - 1) = (n : Int) - 1 := IntWalk.i64_in _ (by omega)
  have hs2 : ((n : Int) - 1).toNat = n - 1 := by omega
  have hs3 : 1 ≤ (n : Int) := by omega
  have hs4 : 0 ≤ (n : Int) - 1 := by omega
  obtain ⟨b, off, rfl, hlc⟩ := hs.last HN.out h0
  by_cases hneg : lastI xs < 0
  · have HX : Hid (-(cont xs xs.length : Int) = contI xs) := by unfold Hid contI; rw [if_pos hneg]
    have hd : decide (lastI xs < 0) = true := by simpa using hneg
    go_enter Try.func82, Try.ntmps82
    go_wp2_with (first | (go_at_call 119; refine (i_content _ _ _ xs _ _ HN.out hl hs HB.out).mono ?_; rintro e w' ⟨rfl, nq, rfl⟩) | go_quiet (fail))
    rw [HX.out]
    clear hs1 hs2 hs3 hs4
    go_loopw [4, 20] (fun u4 u5 wr => ∃ k : Nat, k ≤ n ∧ u5 = .int .i64 k ∧ wr.ownsRow w.heap.size 2 1 u4 k (ints (primTo xs k)) ∧ Below w.heap.size w wr) (fun _ u5 _ => n - (intOf u5).toNat)
    case atStart => exact ⟨0, Nat.zero_le _, rfl, World.ownsRow_nil _ _ _ _, below_drewN (Below.refl _ _) _⟩
    case round =>
      obtain ⟨k, hk, rfl, hown, hb⟩ := hrel
      obtain ⟨A1, c1, rfl, _⟩ := own_slice' hown
      obtain ⟨wo, rfl⟩ : ∃ wo : World, wo = wr := ⟨_, rfl⟩
      have hsz := hb.size
      by_cases hlt : k < n
      · obtain ⟨b2, off2, hA2, hbb, hcell⟩ := IS.at hs (k := k) (by rw [← HN.out]; exact hlt)
        injection hA2 with hA3
        injection hA3 with h1 h2 _
        subst h1
        subst h2
        have hc1 := (hb.cell (p := ⟨b, off + k, none⟩) hbb).trans (hcell k (by rw [← HN.out]; exact hlt))
        clear hcell
        obtain ⟨hg1, hg2⟩ := HB.out k (by rw [← HN.out]; exact hlt)
        have hnz : contI xs ≠ 0 := HNZ.out
        have hta : ((gt xs k).tdiv (contI xs)).natAbs ≤ (gt xs k).natAbs := by rw [Int.natAbs_tdiv]; exact Nat.div_le_self _ _
        have ht1 : -1000000 ≤ (gt xs k).tdiv (contI xs) := by omega
        have ht2 : (gt xs k).tdiv (contI xs) ≤ 1000000 := by omega
        have HPS := Lib.hid (primTo_succ (xs := xs) (k := k) (by rw [← HN.out]; exact hlt))
        clear hta
        go_wp2_with (first | go_quiet (fail) | (at_builtin; refine wpList_append_src rfl (.tmp 24) (.tmp 28) 29 rfl w.heap.size 2 i0 (.int .i64 0) 1 8 Try.underlying29 hi hz0 hz1 hz2 rfl (by omega) (.slice A1 k c1) k (ints (primTo xs k)) rfl (World.ownsRow.alloc hown _) (some ⟨wo.heap.size, 0, none⟩) 1 1 [.int .i64 ((gt xs k).tdiv (contI xs))] rfl rfl (one_src wo _ _) (by intro h; cases h) (by intro u hu; simp at hu; subst hu; rfl) (by simp only [maxLen]; omega) (by omega) (by simp; omega) ?_; intro v2 w3 hown2 hg2 hat2))
        have hb3 : Below w.heap.size w w3 := (hb.alloc hb.size _).grown hg2 (by simp; omega) (fun g hg => (hown.lt g hg).1)
        clear hat2
        go_roundw
        case rel => exact ⟨k + 1, by omega, by go_num, by rw [HPS.out]; simpa [ints] using hown2, hb3⟩
        case measure => simp [intOf]; omega
      · obtain rfl : k = n := by omega
        go_wp2_with (fail)
        go_ret
        have hL : k = (prim xs).length := by rw [prim_len]; exact HN.out
        rw [HN.out, primTo_all, ← HN.out, hL] at hown
        rw [hL]
        exact ⟨_, _, rfl, hown, hb⟩
  · have HX : Hid ((cont xs xs.length : Int) = contI xs) := by unfold Hid contI; rw [if_neg hneg]
    have hd : decide (lastI xs < 0) = false := by simpa using hneg
    have hpos : 0 ≤ lastI xs := by omega
    clear hneg
    go_enter Try.func82, Try.ntmps82
    go_wp2_with (first | (go_at_call 119; refine (i_content _ _ _ xs _ _ HN.out hl hs HB.out).mono ?_; rintro e w' ⟨rfl, nq, rfl⟩) | go_quiet (fail))
    rw [HX.out]
    clear hs1 hs2 hs3 hs4
    go_loopw [4, 20] (fun u4 u5 wr => ∃ k : Nat, k ≤ n ∧ u5 = .int .i64 k ∧ wr.ownsRow w.heap.size 2 1 u4 k (ints (primTo xs k)) ∧ Below w.heap.size w wr) (fun _ u5 _ => n - (intOf u5).toNat)
    case atStart => exact ⟨0, Nat.zero_le _, rfl, World.ownsRow_nil _ _ _ _, below_drewN (Below.refl _ _) _⟩
    case round =>
      obtain ⟨k, hk, rfl, hown, hb⟩ := hrel
      obtain ⟨A1, c1, rfl, _⟩ := own_slice' hown
      obtain ⟨wo, rfl⟩ : ∃ wo : World, wo = wr := ⟨_, rfl⟩
      have hsz := hb.size
      by_cases hlt : k < n
      · obtain ⟨b2, off2, hA2, hbb, hcell⟩ := IS.at hs (k := k) (by rw [← HN.out]; exact hlt)
        injection hA2 with hA3
        injection hA3 with h1 h2 _
        subst h1
        subst h2
        have hc1 := (hb.cell (p := ⟨b, off + k, none⟩) hbb).trans (hcell k (by rw [← HN.out]; exact hlt))
        clear hcell
        obtain ⟨hg1, hg2⟩ := HB.out k (by rw [← HN.out]; exact hlt)
        have hnz : contI xs ≠ 0 := HNZ.out
        have hta : ((gt xs k).tdiv (contI xs)).natAbs ≤ (gt xs k).natAbs := by rw [Int.natAbs_tdiv]; exact Nat.div_le_self _ _
        have ht1 : -1000000 ≤ (gt xs k).tdiv (contI xs) := by omega
        have ht2 : (gt xs k).tdiv (contI xs) ≤ 1000000 := by omega
        have HPS := Lib.hid (primTo_succ (xs := xs) (k := k) (by rw [← HN.out]; exact hlt))
        clear hta
        go_wp2_with (first | go_quiet (fail) | (at_builtin; refine wpList_append_src rfl (.tmp 24) (.tmp 28) 29 rfl w.heap.size 2 i0 (.int .i64 0) 1 8 Try.underlying29 hi hz0 hz1 hz2 rfl (by omega) (.slice A1 k c1) k (ints (primTo xs k)) rfl (World.ownsRow.alloc hown _) (some ⟨wo.heap.size, 0, none⟩) 1 1 [.int .i64 ((gt xs k).tdiv (contI xs))] rfl rfl (one_src wo _ _) (by intro h; cases h) (by intro u hu; simp at hu; subst hu; rfl) (by simp only [maxLen]; omega) (by omega) (by simp; omega) ?_; intro v2 w3 hown2 hg2 hat2))
        have hb3 : Below w.heap.size w w3 := (hb.alloc hb.size _).grown hg2 (by simp; omega) (fun g hg => (hown.lt g hg).1)
        clear hat2
        go_roundw
        case rel => exact ⟨k + 1, by omega, by go_num, by rw [HPS.out]; simpa [ints] using hown2, hb3⟩
        case measure => simp [intOf]; omega
      · obtain rfl : k = n := by omega
        go_wp2_with (fail)
        go_ret
        have hL : k = (prim xs).length := by rw [prim_len]; exact HN.out
        rw [HN.out, primTo_all, ← HN.out, hL] at hown
        rw [hL]
        exact ⟨_, _, rfl, hown, hb⟩
end Go.Proofs.Ytlhkpepnklbnfaa

/- Contracts: products, the identity, ranks. -/
import Derived.Test.YtcbjfdeigpdbdaaA72
namespace Go.Proofs.Ytcbjfdeigpdbdaa
set_option linter.unusedVariables false
set_option linter.unusedSimpArgs false
open Go.RowKit

def MI (base : Nat) (n : Nat) (l : List Int) (w : World) (e : Ending) (w' : World) : Prop := ∃ v, e = .returned v ∧ w'.ownsRow base 2 1 v n (ints l) ∧ Below w.heap.size w w'
theorem ints_snoc (l : List Int) (x : Int) : ints (l ++ [x]) = ints l ++ [Value.int .i64 x] := by simp [ints]
set_option maxHeartbeats 1000000 in
theorem s_prod (A A' : Option Addr) (n c n' c' : Nat) (a b : List Int) (w : World) (B B' : Nat) (hn : n = a.length) (hn' : n' = b.length) (hl : n ≤ 1048576) (hl' : n' ≤ 1048576) (hB : B ≤ w.heap.size) (hB' : B' ≤ w.heap.size) (ha : IS w B A a) (hb : IS w B' A' b)
    (hin : ∀ k, k < n' → 0 ≤ gt b k ∧ gt b k < (n : Int)) :
    Calls Try.prog 106 #[.slice A n c, .slice A' n' c'] w (MI w.heap.size n' (prodL a b) w) := by
  have HN := Lib.hid hn
  have HN' := Lib.hid hn'
  have HIN := Lib.hid hin
  clear hn hn' hin
  obtain ⟨i0, hi, hz0, hz1, hz2⟩ := info_parts infoI64
  go_enter Try.func106, Try.ntmps106
  go_wp2_with (fail)
  go_loopw [5, 6] (fun u5 u6 wr => ∃ k : Nat, k ≤ n' ∧ u6 = .int .i64 k ∧ wr.ownsRow w.heap.size 2 1 u5 k (ints (prodL a (b.take k))) ∧ Below w.heap.size w wr) (fun _ u6 _ => n' - (intOf u6).toNat)
  case atStart => exact ⟨0, Nat.zero_le _, rfl, World.ownsRow_lit w #[] 0 (Nat.le_refl _) (by simp [maxLen]) rfl, (Below.refl _ _).alloc (Nat.le_refl _) _⟩
  case round =>
    obtain ⟨ws, rfl⟩ : ∃ ws : World, ws = wr := ⟨_, rfl⟩
    obtain ⟨k, hk, rfl, hown, hbw⟩ := hrel
    obtain ⟨A1, c1, rfl, _⟩ := own_slice' hown
    by_cases hlt : k < n'
    · obtain ⟨h1, h2⟩ := HIN.out k hlt
      obtain ⟨b2, o2, rfl, hb2, hc2⟩ := hb.at (k := k) (by rw [← HN'.out]; exact hlt)
      obtain ⟨b1, o1, rfl, hb1, hc1⟩ := ha.at (k := 0) (by rw [← HN.out]; omega)
      have e2 := (hbw.cell (p := ⟨b2, o2 + k, none⟩) (by show b2 < _; omega)).trans (hc2 k (by rw [← HN'.out]; exact hlt))
      have hst : prodL a (b.take (k + 1)) = prodL a (b.take k) ++ [gt a (gt b k).toNat] := prodL_take_succ (by rw [← HN'.out]; exact hlt)
      obtain ⟨j, hj⟩ := Int.eq_ofNat_of_zero_le h1
      rw [hj] at e2 hst h2
      rw [Int.toNat_natCast] at hst
      have hjn : j < n := by omega
      have e1 := (hbw.cell (p := ⟨b1, o1 + j, none⟩) (by show b1 < _; omega)).trans (hc1 j (by rw [← HN.out]; exact hjn))
      have hsz := hbw.size
      have HST := Lib.hid hst
      clear hst hj h1 h2 hc1 hc2
      go_wp2_with (first
        | (at_builtin; refine wpList_append_src rfl (.tmp 14) (.tmp 22) 22 rfl w.heap.size 2 i0 (.int .i64 0) 1 8 Try.underlying22 hi hz0 hz1 hz2 rfl (by omega) (.slice A1 k c1) k (ints (prodL a (b.take k))) rfl (World.ownsRow.alloc hown _) (some ⟨ws.heap.size, 0, none⟩) 1 1 [.int .i64 (gt a j)] rfl rfl (one_src ws _ _) (by intro h; cases h) (by intro u hu; simp at hu; subst hu; rfl) (by simp only [maxLen]; omega) (by omega) (by simp; omega) ?_; intro v1 w1 hown1 hg1 hat1))
      go_roundw
      case rel => exact ⟨k + 1, by omega, by go_num, by rw [HST.out, ints_snoc]; exact hown1, (hbw.alloc hsz _).grown hg1 (by simp; omega) (fun g hg => (hown.lt g hg).1)⟩
      case measure => simp [intOf]; omega
    · obtain rfl : k = n' := by omega
      rw [List.take_of_length_le (by rw [← HN'.out]; exact Nat.le_refl _)] at hown
      have HO := Lib.hid hown
      clear hown
      go_wp2_with (fail)
      go_ret
      exact ⟨_, rfl, HO.out, hbw⟩
set_option maxHeartbeats 1000000 in
theorem i_prod (A A' : Option Addr) (n c n' c' : Nat) (a b : List Int) (w : World) (B B' : Nat) (hn : n = a.length) (hn' : n' = b.length) (hl : n ≤ 1048576) (hl' : n' ≤ 1048576) (hB : B ≤ w.heap.size) (hB' : B' ≤ w.heap.size) (ha : IS w B A a) (hb : IS w B' A' b)
    (hin : ∀ k, k < n' → 0 ≤ gt b k ∧ gt b k < (n : Int)) :
    Calls Try.prog 135 #[.slice A n c, .slice A' n' c'] w (MI w.heap.size n' (prodL a b) w) := by
  have HN := Lib.hid hn
  have HN' := Lib.hid hn'
  have HIN := Lib.hid hin
  clear hn hn' hin
  obtain ⟨i0, hi, hz0, hz1, hz2⟩ := info_parts infoI64
  go_enter Try.func135, Try.ntmps135
  go_wp2_with (fail)
  go_loopw [5, 10] (fun u5 u6 wr => ∃ k : Nat, k ≤ n' ∧ u6 = .int .i64 k ∧ wr.ownsRow w.heap.size 2 1 u5 k (ints (prodL a (b.take k))) ∧ Below w.heap.size w wr) (fun _ u6 _ => n' - (intOf u6).toNat)
  case atStart => exact ⟨0, Nat.zero_le _, rfl, World.ownsRow_nil _ _ _ _, Below.refl _ _⟩
  case round =>
    obtain ⟨ws, rfl⟩ : ∃ ws : World, ws = wr := ⟨_, rfl⟩
    obtain ⟨k, hk, rfl, hown, hbw⟩ := hrel
    obtain ⟨A1, c1, rfl, _⟩ := own_slice' hown
    by_cases hlt : k < n'
    · obtain ⟨h1, h2⟩ := HIN.out k hlt
      obtain ⟨b2, o2, rfl, hb2, hc2⟩ := hb.at (k := k) (by rw [← HN'.out]; exact hlt)
      obtain ⟨b1, o1, rfl, hb1, hc1⟩ := ha.at (k := 0) (by rw [← HN.out]; omega)
      have e2 := (hbw.cell (p := ⟨b2, o2 + k, none⟩) (by show b2 < _; omega)).trans (hc2 k (by rw [← HN'.out]; exact hlt))
      have hst : prodL a (b.take (k + 1)) = prodL a (b.take k) ++ [gt a (gt b k).toNat] := prodL_take_succ (by rw [← HN'.out]; exact hlt)
      obtain ⟨j, hj⟩ := Int.eq_ofNat_of_zero_le h1
      rw [hj] at e2 hst h2
      rw [Int.toNat_natCast] at hst
      have hjn : j < n := by omega
      have e1 := (hbw.cell (p := ⟨b1, o1 + j, none⟩) (by show b1 < _; omega)).trans (hc1 j (by rw [← HN.out]; exact hjn))
      have hsz := hbw.size
      have HST := Lib.hid hst
      clear hst hj h1 h2 hc1 hc2
      go_wp2_with (first
        | (at_builtin; refine wpList_append_src rfl (.tmp 14) (.tmp 19) 22 rfl w.heap.size 2 i0 (.int .i64 0) 1 8 Try.underlying22 hi hz0 hz1 hz2 rfl (by omega) (.slice A1 k c1) k (ints (prodL a (b.take k))) rfl (World.ownsRow.alloc hown _) (some ⟨ws.heap.size, 0, none⟩) 1 1 [.int .i64 (gt a j)] rfl rfl (one_src ws _ _) (by intro h; cases h) (by intro u hu; simp at hu; subst hu; rfl) (by simp only [maxLen]; omega) (by omega) (by simp; omega) ?_; intro v1 w1 hown1 hg1 hat1))
      go_roundw
      case rel => exact ⟨k + 1, by omega, by go_num, by rw [HST.out, ints_snoc]; exact hown1, (hbw.alloc hsz _).grown hg1 (by simp; omega) (fun g hg => (hown.lt g hg).1)⟩
      case measure => simp [intOf]; omega
    · obtain rfl : k = n' := by omega
      rw [List.take_of_length_le (by rw [← HN'.out]; exact Nat.le_refl _)] at hown
      have HO := Lib.hid hown
      clear hown
      go_wp2_with (fail)
      go_ret
      exact ⟨_, rfl, HO.out, hbw⟩
set_option maxHeartbeats 1000000 in
theorem s_one (n : Nat) (w : World) (hl : n ≤ 1048576) :
    Calls Try.prog 162 #[.int .i64 n] w (MI w.heap.size n (idL n) w) := by
  obtain ⟨i0, hi, hz0, hz1, hz2⟩ := info_parts infoI64
  go_enter Try.func162, Try.ntmps162
  go_wp2_with (fail)
  go_loopw [3, 4] (fun u5 u6 wr => ∃ k : Nat, k ≤ n ∧ u6 = .int .i64 k ∧ wr.ownsRow w.heap.size 2 1 u5 k (ints (idL k)) ∧ Below w.heap.size w wr) (fun _ u6 _ => n - (intOf u6).toNat)
  case atStart => exact ⟨0, Nat.zero_le _, rfl, World.ownsRow_lit w #[] 0 (Nat.le_refl _) (by simp [maxLen]) rfl, (Below.refl _ _).alloc (Nat.le_refl _) _⟩
  case round =>
    obtain ⟨ws, rfl⟩ : ∃ ws : World, ws = wr := ⟨_, rfl⟩
    obtain ⟨k, hk, rfl, hown, hbw⟩ := hrel
    obtain ⟨A1, c1, rfl, _⟩ := own_slice' hown
    by_cases hlt : k < n
    · have hsz := hbw.size
      go_wp2_with (first
        | (at_builtin; refine wpList_append_src rfl (.tmp 11) (.tmp 13) 22 rfl w.heap.size 2 i0 (.int .i64 0) 1 8 Try.underlying22 hi hz0 hz1 hz2 rfl (by omega) (.slice A1 k c1) k (ints (idL k)) rfl (World.ownsRow.alloc hown _) (some ⟨ws.heap.size, 0, none⟩) 1 1 [.int .i64 (k : Int)] rfl rfl (one_src ws _ _) (by intro h; cases h) (by intro u hu; simp at hu; subst hu; rfl) (by simp only [maxLen]; omega) (by omega) (by simp; omega) ?_; intro v1 w1 hown1 hg1 hat1))
      go_roundw
      case rel => exact ⟨k + 1, by omega, by go_num, by rw [idL_succ, ints_snoc]; exact hown1, (hbw.alloc hsz _).grown hg1 (by simp; omega) (fun g hg => (hown.lt g hg).1)⟩
      case measure => simp [intOf]; omega
    · obtain rfl : k = n := by omega
      have HO := Lib.hid hown
      clear hown
      go_wp2_with (fail)
      go_ret
      exact ⟨_, rfl, HO.out, hbw⟩
set_option maxHeartbeats 1000000 in
theorem i_one (n : Nat) (w : World) (hl : n ≤ 1048576) :
    Calls Try.prog 166 #[.int .i64 n] w (MI w.heap.size n (idL n) w) := by
  obtain ⟨i0, hi, hz0, hz1, hz2⟩ := info_parts infoI64
  go_enter Try.func166, Try.ntmps166
  go_wp2_with (fail)
  go_loopw [3, 6] (fun u5 u6 wr => ∃ k : Nat, k ≤ n ∧ u6 = .int .i64 k ∧ wr.ownsRow w.heap.size 2 1 u5 k (ints (idL k)) ∧ Below w.heap.size w wr) (fun _ u6 _ => n - (intOf u6).toNat)
  case atStart => exact ⟨0, Nat.zero_le _, rfl, World.ownsRow_nil _ _ _ _, Below.refl _ _⟩
  case round =>
    obtain ⟨ws, rfl⟩ : ∃ ws : World, ws = wr := ⟨_, rfl⟩
    obtain ⟨k, hk, rfl, hown, hbw⟩ := hrel
    obtain ⟨A1, c1, rfl, _⟩ := own_slice' hown
    by_cases hlt : k < n
    · have hsz := hbw.size
      go_wp2_with (first
        | (at_builtin; refine wpList_append_src rfl (.tmp 9) (.tmp 11) 22 rfl w.heap.size 2 i0 (.int .i64 0) 1 8 Try.underlying22 hi hz0 hz1 hz2 rfl (by omega) (.slice A1 k c1) k (ints (idL k)) rfl (World.ownsRow.alloc hown _) (some ⟨ws.heap.size, 0, none⟩) 1 1 [.int .i64 (k : Int)] rfl rfl (one_src ws _ _) (by intro h; cases h) (by intro u hu; simp at hu; subst hu; rfl) (by simp only [maxLen]; omega) (by omega) (by simp; omega) ?_; intro v1 w1 hown1 hg1 hat1))
      go_roundw
      case rel => exact ⟨k + 1, by omega, by go_num, by rw [idL_succ, ints_snoc]; exact hown1, (hbw.alloc hsz _).grown hg1 (by simp; omega) (fun g hg => (hown.lt g hg).1)⟩
      case measure => simp [intOf]; omega
    · obtain rfl : k = n := by omega
      have HO := Lib.hid hown
      clear hown
      go_wp2_with (fail)
      go_ret
      exact ⟨_, rfl, HO.out, hbw⟩
set_option maxHeartbeats 1000000 in
theorem s_rank (A : Option Addr) (n c : Nat) (a : List Int) (w : World) (B : Nat) (hn : n = a.length) (hl : n ≤ 6) (ha : IS w B A a) :
    Calls Try.prog 105 #[.slice A n c] w (Q (.int .i64 (rk a : Nat)) w) := by
  have HN := Lib.hid hn
  clear hn
  have hf := (fact_le hl).2
  have hbd : ∀ k, k ≤ n → rkL a k < 720 := fun k hk => by
    have h1 := rkL_le (a := a) (k := k) (by rw [← HN.out]; exact hk)
    rw [← HN.out] at h1
    omega
  have HBD := Lib.hid hbd
  generalize hR : rk a = R
  have HR := Lib.hid hR
  clear hbd hR hf
  go_enter Try.func105, Try.ntmps105
  go_wp2_with (fail)
  go_loopw [3, 4] (fun u3 u4 wr => ∃ k N : Nat, k ≤ n ∧ N < 720 ∧ u3 = .int .i64 N ∧ u4 = .int .i64 k ∧ Hid (N = rkL a k) ∧ DR w wr) (fun _ u4 _ => n - (intOf u4).toNat)
  case atStart => exact ⟨0, 0, Nat.zero_le _, by omega, rfl, rfl, rfl, DR.refl _⟩
  case round =>
    obtain ⟨ws, rfl⟩ : ∃ ws : World, ws = wr := ⟨_, rfl⟩
    obtain ⟨k, N, hk, hN, rfl, rfl, HS, hdr⟩ := hrel
    by_cases hlt : k < n
    · obtain ⟨b1, o1, rfl, hb1, hc1⟩ := ha.at (k := k) (by rw [← HN.out]; exact hlt)
      have HC := Lib.hid hc1
      clear hc1
      go_wp2_with (fail)
      go_loopw [5, 6] (fun u5 u6 wr' => ∃ j L : Nat, k + 1 + j ≤ n ∧ L ≤ j ∧ u5 = .int .i64 L ∧ u6 = .int .i64 ((k + 1 + j : Nat) : Int) ∧ Hid (L = cntL a (gt a k) (k + 1) j) ∧ DR w wr') (fun _ u6 _ => n - (intOf u6).toNat)
      case atStart => exact ⟨0, 0, by omega, by omega, rfl, by go_num, rfl, hdr⟩
      case round =>
        obtain ⟨j, L, hj, hL, rfl, rfl, HI, hdr2⟩ := hrel
        by_cases hjl : k + 1 + j < n
        · have e1 := (hdr2.cell _).trans (HC.out (k + 1 + j) (by rw [← HN.out]; exact hjl))
          have e2 := (hdr2.cell _).trans (HC.out k (by rw [← HN.out]; exact hlt))
          by_cases hc : gt a (k + 1 + j) < gt a k
          · have HX : Hid (L + 1 = cntL a (gt a k) (k + 1) (j + 1)) := by unfold Hid; rw [cntL_yes hc, HI.out]
            go_wp2_with (go_quiet (fail))
            go_roundw
            case rel => exact ⟨j + 1, L + 1, by omega, by omega, by go_num, by go_num, HX, by repeat (first | exact hdr2 | refine DR.step ?_ _)⟩
            case measure => simp [intOf]; omega
          · have HX : Hid (L = cntL a (gt a k) (k + 1) (j + 1)) := by unfold Hid; rw [cntL_no hc, HI.out]
            go_wp2_with (go_quiet (fail))
            go_roundw
            case rel => exact ⟨j + 1, L, by omega, by omega, rfl, by go_num, HX, by repeat (first | exact hdr2 | refine DR.step ?_ _)⟩
            case measure => simp [intOf]; omega
        · obtain ⟨m, hm⟩ : ∃ m, n - k = m + 1 := ⟨n - k - 1, by omega⟩
          obtain rfl : j = m := by omega
          have hnk : (n : Int) - (k : Int) = ((j + 1 : Nat) : Int) := by omega
          have hmul : (N : Int) * ((j + 1 : Nat) : Int) = ((N * (j + 1) : Nat) : Int) := by rw [Int.natCast_mul]
          have hbm : N * (j + 1) ≤ 720 * 6 := Nat.mul_le_mul (by omega) (by omega)
          have hX : N * (j + 1) + L = rkL a (k + 1) := by
            show _ = rkL a k * (a.length - k) + cntL a (gt a k) (k + 1) (a.length - (k + 1))
            rw [← HN.out, hm, show n - (k + 1) = j by omega, HS.out, HI.out]
          have hlt2 := HBD.out (k + 1) (by omega)
          rw [← hX] at hlt2
          have HX := Lib.hid hX
          generalize hP : N * (j + 1) = P at *
          have HNK := Lib.hid hnk
          have HML := Lib.hid hmul
          clear hX hP hmul hnk hm
          go_wp2_with (fail)
          go_roundw
          case rel => exact ⟨k + 1, P + L, by omega, hlt2, by rw [HNK.out, HML.out, IntWalk.wrap64_in (P : Int) (by omega), IntWalk.wrap64_in _ (by omega)]; simp, by go_num, HX.out, by repeat (first | exact hdr2 | refine DR.step ?_ _)⟩
          case measure => simp [intOf]; omega
    · obtain rfl : k = n := by omega
      have HX : Hid (N = R) := by unfold Hid; rw [← HR.out, HS.out, HN.out]; rfl
      go_wp2_with (fail)
      go_ret
      exact ⟨ret_int (by rw [HX.out]), hdr⟩
set_option maxHeartbeats 1000000 in
theorem i_rank (A : Option Addr) (n c : Nat) (a : List Int) (w : World) (B : Nat) (hn : n = a.length) (hl : n ≤ 6) (hcn : n ≤ c) (hcm : c ≤ maxLen) (ha : IS w B A a) :
    Calls Try.prog 168 #[.slice A n c] w (Q (.int .i64 (rk a : Nat)) w) := by
  unfold maxLen at hcm
  have HN := Lib.hid hn
  clear hn
  have hf := (fact_le hl).2
  have hbd : ∀ k, k ≤ n → rkL a k < 720 := fun k hk => by
    have h1 := rkL_le (a := a) (k := k) (by rw [← HN.out]; exact hk)
    rw [← HN.out] at h1
    omega
  have HBD := Lib.hid hbd
  generalize hR : rk a = R
  have HR := Lib.hid hR
  clear hbd hR hf
  go_enter Try.func168, Try.ntmps168
  go_wp2_with (fail)
  go_loopw [3, 11] (fun u3 u4 wr => ∃ k N : Nat, k ≤ n ∧ N < 720 ∧ u3 = .int .i64 N ∧ u4 = .int .i64 k ∧ Hid (N = rkL a k) ∧ DR w wr) (fun _ u4 _ => n - (intOf u4).toNat)
  case atStart => exact ⟨0, 0, Nat.zero_le _, by omega, rfl, rfl, rfl, DR.refl _⟩
  case round =>
    obtain ⟨ws, rfl⟩ : ∃ ws : World, ws = wr := ⟨_, rfl⟩
    obtain ⟨k, N, hk, hN, rfl, rfl, HS, hdr⟩ := hrel
    by_cases hlt : k < n
    · obtain ⟨b1, o1, rfl, hb1, hc1⟩ := ha.at (k := k) (by rw [← HN.out]; exact hlt)
      have HC := Lib.hid hc1
      have e2 := (hdr.cell _).trans (hc1 k (by rw [← HN.out]; exact hlt))
      clear hc1
      obtain ⟨m, hm⟩ : ∃ m, n - k = m + 1 := ⟨n - k - 1, by omega⟩
      have hm' : n - (k + 1) = m := by omega
      have hnk : (n : Int) - (k : Int) = ((m + 1 : Nat) : Int) := by omega
      have hmul : (N : Int) * ((m + 1 : Nat) : Int) = ((N * (m + 1) : Nat) : Int) := by rw [Int.natCast_mul]
      have hbm : N * (m + 1) ≤ 720 * 6 := Nat.mul_le_mul (by omega) (by omega)
      have HNK := Lib.hid hnk
      have HML := Lib.hid hmul
      have HM := Lib.hid hm
      have HM' := Lib.hid hm'
      have hmn : k + 1 + m = n := by omega
      clear hnk hmul hm hm'
      by_cases hck : c = k + 1
      · go_wp2_with (fail)
        rw [HM'.out]
        go_loopw [6, 21] (fun u5 u6 wr' => ∃ j L : Nat, j ≤ m ∧ L ≤ j ∧ u5 = .int .i64 L ∧ u6 = .int .i64 (j : Int) ∧ Hid (L = cntL a (gt a k) (k + 1) j) ∧ DR w wr') (fun _ u6 _ => m - (intOf u6).toNat)
        case atStart => exact ⟨0, 0, by omega, by omega, rfl, by go_num, rfl, hdr⟩
        case round =>
          obtain ⟨j, L, hj, hL, rfl, rfl, HI, hdr2⟩ := hrel
          by_cases hjl : j < m
          · exfalso
            omega
          · obtain rfl : j = m := by omega
            have hX : N * (j + 1) + L = rkL a (k + 1) := by
              show _ = rkL a k * (a.length - k) + cntL a (gt a k) (k + 1) (a.length - (k + 1))
              rw [← HN.out, HM.out, HM'.out, HS.out, HI.out]
            have hlt2 := HBD.out (k + 1) (by omega)
            rw [← hX] at hlt2
            have HX := Lib.hid hX
            generalize hP : N * (j + 1) = P at *
            clear hX hP
            go_wp2_with (fail)
            go_roundw
            case rel => exact ⟨k + 1, P + L, by omega, hlt2, by rw [HNK.out, HML.out, IntWalk.wrap64_in (P : Int) (by omega), IntWalk.wrap64_in _ (by omega)]; simp, by go_num, HX.out, by repeat (first | exact hdr2 | refine DR.step ?_ _)⟩
            case measure => simp [intOf]; omega
      · go_wp2_with (fail)
        rw [HM'.out]
        go_loopw [6, 21] (fun u5 u6 wr' => ∃ j L : Nat, j ≤ m ∧ L ≤ j ∧ u5 = .int .i64 L ∧ u6 = .int .i64 (j : Int) ∧ Hid (L = cntL a (gt a k) (k + 1) j) ∧ DR w wr') (fun _ u6 _ => m - (intOf u6).toNat)
        case atStart => exact ⟨0, 0, by omega, by omega, rfl, by go_num, rfl, hdr⟩
        case round =>
          obtain ⟨j, L, hj, hL, rfl, rfl, HI, hdr2⟩ := hrel
          by_cases hjl : j < m
          · have e1 := (hdr2.cell _).trans (HC.out (k + 1 + j) (by rw [← HN.out]; omega))
            rw [← Nat.add_assoc] at e1
            by_cases hc : gt a (k + 1 + j) < gt a k
            · have HX : Hid (L + 1 = cntL a (gt a k) (k + 1) (j + 1)) := by unfold Hid; rw [cntL_yes hc, HI.out]
              go_wp2_with (go_quiet (fail))
              go_roundw
              case rel => exact ⟨j + 1, L + 1, by omega, by omega, by go_num, by go_num, HX, by repeat (first | exact hdr2 | refine DR.step ?_ _)⟩
              case measure => simp [intOf]; omega
            · have HX : Hid (L = cntL a (gt a k) (k + 1) (j + 1)) := by unfold Hid; rw [cntL_no hc, HI.out]
              go_wp2_with (go_quiet (fail))
              go_roundw
              case rel => exact ⟨j + 1, L, by omega, by omega, rfl, by go_num, HX, by repeat (first | exact hdr2 | refine DR.step ?_ _)⟩
              case measure => simp [intOf]; omega
          · obtain rfl : j = m := by omega
            have hX : N * (j + 1) + L = rkL a (k + 1) := by
              show _ = rkL a k * (a.length - k) + cntL a (gt a k) (k + 1) (a.length - (k + 1))
              rw [← HN.out, HM.out, HM'.out, HS.out, HI.out]
            have hlt2 := HBD.out (k + 1) (by omega)
            rw [← hX] at hlt2
            have HX := Lib.hid hX
            generalize hP : N * (j + 1) = P at *
            clear hX hP
            go_wp2_with (fail)
            go_roundw
            case rel => exact ⟨k + 1, P + L, by omega, hlt2, by rw [HNK.out, HML.out, IntWalk.wrap64_in (P : Int) (by omega), IntWalk.wrap64_in _ (by omega)]; simp, by go_num, HX.out, by repeat (first | exact hdr2 | refine DR.step ?_ _)⟩
            case measure => simp [intOf]; omega
    · obtain rfl : k = n := by omega
      have HX : Hid (N = R) := by unfold Hid; rw [← HR.out, HS.out, HN.out]; rfl
      go_wp2_with (fail)
      go_ret
      exact ⟨ret_int (by rw [HX.out]), hdr⟩
end Go.Proofs.Ytcbjfdeigpdbdaa

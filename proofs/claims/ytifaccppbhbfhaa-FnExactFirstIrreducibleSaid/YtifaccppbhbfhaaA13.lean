/- Several parts of the proof in one text; each part says what it shows. Nothing is assumed. -/
import Derived.Test.YtifaccppbhbfhaaA8
/- Contracts and walks: IsPolynomial, IsSmall, IsModerate, CompareRational. -/
namespace Go.Proofs.Ytifaccppbhbfhaa
set_option linter.unusedVariables false
set_option linter.unusedSimpArgs false
open Go.RowKit

/-- All numbers lie within B. -/
def AllP (b : Int) (xs : List Int) : Prop := ∀ k, k < xs.length → inB (gt xs k) (-b) b = true
noncomputable def allB (b : Int) (xs : List Int) : Bool := @decide (AllP b xs) (Classical.propDecidable _)
theorem allB_t {b : Int} {xs : List Int} (h : AllP b xs) : allB b xs = true := by simp [allB, h]
theorem allB_f {b : Int} {xs : List Int} (h : ¬ AllP b xs) : allB b xs = false := by simp [allB, h]
theorem allB_p {b : Int} {xs : List Int} (h : allB b xs = true) : AllP b xs := by simpa [allB] using h
def lastI (xs : List Int) : Int := gt xs (xs.length - 1)
noncomputable def polyB (xs : List Int) : Bool := allB 1000000 xs && (decide (xs.length ≤ 9) && (decide (xs.length = 0) || lastI xs != 0))
noncomputable def smallPB (xs : List Int) : Bool := allB 60 xs && (polyB xs && decide (2 ≤ xs.length ∧ xs.length ≤ 5))
noncomputable def modB (xs : List Int) : Bool := allB 20 xs && (smallPB xs && lastI xs == 1)
theorem IS.dr {w wr : World} {B : Nat} {A : Option Addr} {xs : List Int} (h : IS w B A xs) (hd : DR w wr) : IS wr B A xs := by
  obtain ⟨m, rfl⟩ := hd; exact h
theorem IS.last {w : World} {B : Nat} {A : Option Addr} {xs : List Int} (h : IS w B A xs) {n : Nat} (hn : n = xs.length) (h0 : 0 < n) : ∃ b off, A = some ⟨b, off, none⟩ ∧ w.cell? ⟨b, off + (n - 1), none⟩ = some (.int .i64 (lastI xs)) := by
  obtain ⟨b, off, h1, _, h3⟩ := h.at (k := n - 1) (by omega)
  refine ⟨b, off, h1, ?_⟩
  rw [h3 (n - 1) (by omega), lastI, hn]
set_option maxHeartbeats 1000000 in
theorem s_IsPolynomial (A : Option Addr) (n c : Nat) (xs : List Int) (w : World) (B : Nat) (hn : n = xs.length) (hl : n ≤ 1048576) (hs : IS w B A xs) :
    Calls Try.prog 35 #[.slice A n c] w (Q (.bool (polyB xs)) w) := by
  have HN := Lib.hid hn
  clear hn
  go_enter Try.func35, Try.ntmps35
  go_wp2_with (fail)
  go_loopw [3] (fun u3 wr => ∃ k : Nat, k ≤ n ∧ u3 = .int .i64 k ∧ Hid (∀ j, j < k → inB (gt xs j) (-1000000) 1000000 = true) ∧ DR w wr) (fun u3 _ => n - (intOf u3).toNat)
  case atStart => exact ⟨0, Nat.zero_le _, rfl, fun j hj => by omega, DR.refl _⟩
  case round =>
    obtain ⟨k, hk, rfl, HR, hdr⟩ := hrel
    by_cases hlt : k < n
    · obtain ⟨b, off, rfl, hbb, hcell⟩ := IS.at hs (k := k) (by rw [← HN.out]; exact hlt)
      have hc1 := (hdr.cell _).trans (hcell k (by rw [← HN.out]; exact hlt))
      clear hcell
      cases hin : inB (gt xs k) (-1000000) 1000000
      · go_wp2_with (first | (go_at_call 57; refine (s_l01In _ _ _ _).mono ?_; rintro e w' ⟨rfl, nq, rfl⟩; rw [hin]))
        go_ret
        refine ⟨ret_bool ?_, hdr.step _⟩
        rw [polyB, allB_f (fun h => by have := h k (by rw [← HN.out]; exact hlt); rw [hin] at this; cases this)]
        rfl
      · go_wp2_with (first | (go_at_call 57; refine (s_l01In _ _ _ _).mono ?_; rintro e w' ⟨rfl, nq, rfl⟩; rw [hin]))
        go_roundw
        case rel => exact ⟨k + 1, by omega, by go_num, fun j hj => by
          by_cases hjk : j = k
          · subst hjk; exact hin
          · exact HR.out j (by omega), hdr.step _⟩
        case measure => simp [intOf]; omega
    · obtain rfl : k = n := by omega
      have hall : allB 1000000 xs = true := allB_t (fun j hj => HR.out j (by rw [HN.out]; exact hj))
      have HA := Lib.hid hall
      clear hall
      by_cases h9 : k ≤ 9
      · by_cases h0 : k = 0
        · have HX : Hid (polyB xs = true) := by
            unfold Hid polyB; rw [HA.out, ← HN.out]; simp [h0]
          subst h0
          go_wp2_with (first | go_quiet (fail))
          go_ret
          exact ⟨ret_bool HX.out.symm, by repeat (first | assumption | refine DR.step ?_ _)⟩
        · have hk1 : 0 < k := by omega
          have hk2 : ((k : Int) == 0) = false := by rw [beq_eq_false_iff_ne]; omega
          have HX : Hid (polyB xs = (lastI xs != 0)) := by
            unfold Hid polyB; rw [HA.out, ← HN.out]; simp [h0, h9]
          obtain ⟨b, off, rfl, hcl⟩ := hs.last HN.out hk1
          rw [← hdr.cell] at hcl
          have hs1 : IntKind.i64.wrap ((k : Int) - 1) = (k : Int) - 1 := IntWalk.i64_in _ (by omega)
          have hs2 : ((k : Int) - 1).toNat = k - 1 := by omega
          have hs3 : 1 ≤ (k : Int) := by omega
          have hs4 : 0 ≤ (k : Int) - 1 := by omega
          go_wp2_with (first | go_quiet (fail))
          go_ret
          exact ⟨ret_bool HX.out.symm, by repeat (first | assumption | refine DR.step ?_ _)⟩
      · have HX : Hid (polyB xs = false) := by
          unfold Hid polyB; rw [HA.out, ← HN.out]; simp [h9]
        have h9' : 9 < k := by omega
        clear h9
        go_wp2_with (fail)
        go_ret
        exact ⟨ret_bool HX.out.symm, by repeat (first | assumption | refine DR.step ?_ _)⟩
end Go.Proofs.Ytifaccppbhbfhaa
/- Contracts and walks: IsPolynomial, IsSmall, IsModerate of the program; CompareRational. -/
namespace Go.Proofs.Ytifaccppbhbfhaa
set_option linter.unusedVariables false
set_option linter.unusedSimpArgs false
open Go.RowKit

set_option maxHeartbeats 400000 in
theorem i_polyC (x : Int) (w : World) : Calls Try.prog 64 #[.int .i64 x] w (Q (.bool (!inB x (-1000000) 1000000)) w) := by
  go_enter Try.func64, Try.ntmps64
  go_wp2_with (first | (go_at_call 59; refine (i_within _ _ _ _).mono ?_; rintro e w' ⟨rfl, nq, rfl⟩))
  go_ret
  exact ⟨rfl, dq1⟩
set_option maxHeartbeats 1000000 in
theorem x_i_polyC (A : Option Addr) (n c : Nat) (xs : List Int) (w : World) (B : Nat) (hn : n = xs.length) (hl : n ≤ 1048576) (hs : IS w B A xs) :
    Calls Try.prog 82 #[.slice A n c, .func (.func 64) #[] #[]] w (fun e w' => ∃ r : Int, e = .returned (.int .i64 r) ∧ (0 ≤ r ↔ allB 1000000 xs = false) ∧ DR w w') := by
  have HN := Lib.hid hn
  clear hn
  go_enter Try.func82, Try.ntmps82
  go_wp2_with (fail)
  go_loopw [8] (fun u3 wr => ∃ k : Nat, k ≤ n ∧ u3 = .int .i64 k ∧ Hid (∀ j, j < k → inB (gt xs j) (-1000000) 1000000 = true) ∧ DR w wr) (fun u3 _ => n - (intOf u3).toNat)
  case atStart => exact ⟨0, Nat.zero_le _, rfl, fun j hj => by omega, DR.refl _⟩
  case round =>
    obtain ⟨k, hk, rfl, HR, hdr⟩ := hrel
    by_cases hlt : k < n
    · obtain ⟨b, off, rfl, hbb, hcell⟩ := IS.at hs (k := k) (by rw [← HN.out]; exact hlt)
      have hc1 := (hdr.cell _).trans (hcell k (by rw [← HN.out]; exact hlt))
      clear hcell
      cases hin : inB (gt xs k) (-1000000) 1000000
      · go_wp2_with (first | (go_at_call 64; refine (i_polyC _ _).mono ?_; rintro e w' ⟨rfl, nq, rfl⟩; rw [hin]))
        go_ret
        refine ⟨_, rfl, ?_, hdr.step _⟩
        rw [allB_f (fun h => by have := h k (by rw [← HN.out]; exact hlt); rw [hin] at this; cases this)]
        simp
      · go_wp2_with (first | (go_at_call 64; refine (i_polyC _ _).mono ?_; rintro e w' ⟨rfl, nq, rfl⟩; rw [hin]))
        go_roundw
        case rel => exact ⟨k + 1, by omega, by go_num, fun j hj => by
          by_cases hjk : j = k
          · subst hjk; exact hin
          · exact HR.out j (by omega), hdr.step _⟩
        case measure => simp [intOf]; omega
    · obtain rfl : k = n := by omega
      have hall : allB 1000000 xs = true := allB_t (fun j hj => HR.out j (by rw [HN.out]; exact hj))
      have HA := Lib.hid hall
      clear hall
      go_wp2_with (fail)
      go_ret
      refine ⟨_, rfl, ?_, hdr⟩
      rw [HA.out]
      simp
set_option maxHeartbeats 400000 in
theorem c_i_polyC (A : Option Addr) (n c : Nat) (xs : List Int) (w : World) (B : Nat) (hn : n = xs.length) (hl : n ≤ 1048576) (hs : IS w B A xs) :
    Calls Try.prog 63 #[.slice A n c, .func (.func 64) #[] #[]] w (Q (.bool (!allB 1000000 xs)) w) := by
  have HN := Lib.hid hn
  clear hn
  go_enter Try.func63, Try.ntmps63
  go_wp2_with (fail)
  refine (x_i_polyC A n c xs _ B HN.out hl hs).mono ?_
  rintro e w1 ⟨r, rfl, hr, hdr⟩
  have HR := Lib.hid hr
  clear hr
  go_wp2_with (fail)
  go_ret
  refine ⟨ret_bool ?_, hdr⟩
  have hr := HR.out
  cases h : allB 1000000 xs
  · rw [h] at hr; simp at hr; simp; omega
  · rw [h] at hr; simp at hr; simp; omega
end Go.Proofs.Ytifaccppbhbfhaa
/- Contracts and walks: the program's IsPolynomial, IsSmall, IsModerate; the law of IsModerate. -/
namespace Go.Proofs.Ytifaccppbhbfhaa
set_option linter.unusedVariables false
set_option linter.unusedSimpArgs false
open Go.RowKit

set_option maxHeartbeats 1000000 in
theorem i_IsPolynomial (A : Option Addr) (n c : Nat) (xs : List Int) (w : World) (B : Nat) (hn : n = xs.length) (hl : n ≤ 1048576) (hs : IS w B A xs) :
    Calls Try.prog 39 #[.slice A n c] w (Q (.bool (polyB xs)) w) := by
  have HN := Lib.hid hn
  clear hn
  by_cases h9 : 9 < n
  · have HX : Hid (polyB xs = false) := by
      unfold Hid polyB; rw [← HN.out]; simp; intro _ h; omega
    go_enter Try.func39, Try.ntmps39
    go_wp2_with (fail)
    go_ret
    exact ⟨ret_bool HX.out.symm, ⟨0, rfl⟩⟩
  have h9' : n ≤ 9 := by omega
  clear h9
  cases hall : allB 1000000 xs
  · have HX : Hid (polyB xs = false) := by unfold Hid polyB; rw [hall]; rfl
    go_enter Try.func39, Try.ntmps39
    go_wp2_with (first | (go_at_call 63; refine (c_i_polyC _ _ _ xs _ B HN.out hl hs).mono ?_; rintro e w' ⟨rfl, nq, rfl⟩; rw [hall]))
    go_ret
    exact ⟨ret_bool HX.out.symm, dq1⟩
  by_cases h0 : n = 0
  · have HX : Hid (polyB xs = true) := by
      unfold Hid polyB; rw [hall, ← HN.out]; simp [h0]
    subst h0
    go_enter Try.func39, Try.ntmps39
    go_wp2_with (first | (go_at_call 63; refine (c_i_polyC _ _ _ xs _ B HN.out hl hs).mono ?_; rintro e w' ⟨rfl, nq, rfl⟩; rw [hall]))
    go_ret
    exact ⟨ret_bool HX.out.symm, dq1⟩
  · have hk1 : 0 < n := by omega
    have hk2 : ((n : Int) == 0) = false := by rw [beq_eq_false_iff_ne]; omega
    have HX : Hid (polyB xs = (lastI xs != 0)) := by
      unfold Hid polyB; rw [hall, ← HN.out]; simp [h0, h9']
    obtain ⟨b, off, rfl, hcl⟩ := hs.last HN.out hk1
    have hs1 : IntKind.i64.wrap ((n : Int) - 1) = (n : Int) - 1 := IntWalk.i64_in _ (by omega)
    have hs2 : ((n : Int) - 1).toNat = n - 1 := by omega
    have hs3 : 1 ≤ (n : Int) := by omega
    have hs4 : 0 ≤ (n : Int) - 1 := by omega
    go_enter Try.func39, Try.ntmps39
    go_wp2_with (first | (go_at_call 63; refine (c_i_polyC _ _ _ xs _ B HN.out hl hs).mono ?_; rintro e w' ⟨rfl, nq, rfl⟩; rw [hall]) | go_quiet (fail))
    go_ret
    exact ⟨ret_bool HX.out.symm, by first | exact dq1 | exact dq2⟩
set_option maxHeartbeats 400000 in
theorem i_degree (A : Option Addr) (n c : Nat) (w : World) (hl : n ≤ 1048576) : Calls Try.prog 41 #[.slice A n c] w (Q (.int .i64 ((n : Int) - 1)) w) := by
  go_enter Try.func41, Try.ntmps41
  go_wp2_with (first | (go_at_call 53; refine (i_size _ _ _ _).mono ?_; rintro e w' ⟨rfl, nq, rfl⟩))
  go_ret
  exact ⟨rfl, dq1⟩
theorem smallPB_len {xs : List Int} (h : smallPB xs = true) : 2 ≤ xs.length ∧ xs.length ≤ 5 := by
  unfold smallPB at h; simp at h; exact h.2.2
def monB (xs : List Int) : Bool := decide (0 < xs.length) && lastI xs == 1
set_option maxHeartbeats 1000000 in
theorem i_isMonic (A : Option Addr) (n c : Nat) (xs : List Int) (w : World) (B : Nat) (hn : n = xs.length) (hl : n ≤ 1048576) (hs : IS w B A xs) :
    Calls Try.prog 40 #[.slice A n c] w (Q (.bool (monB xs)) w) := by
  have HN := Lib.hid hn
  clear hn
  by_cases h0 : n = 0
  · have HX : Hid (monB xs = false) := by unfold Hid monB; rw [← HN.out]; simp [h0]
    subst h0
    go_enter Try.func40, Try.ntmps40
    go_wp2_with (fail)
    go_ret
    exact ⟨ret_bool HX.out.symm, ⟨0, rfl⟩⟩
  · have hk1 : 0 < n := by omega
    have HX : Hid (monB xs = (lastI xs == 1)) := by unfold Hid monB; rw [← HN.out]; simp [hk1]
    obtain ⟨b, off, rfl, hcl⟩ := hs.last HN.out hk1
    have hs1 : IntKind.i64.wrap ((n : Int) - 1) = (n : Int) - 1 := IntWalk.i64_in _ (by omega)
    have hs2 : ((n : Int) - 1).toNat = n - 1 := by omega
    have hs3 : 1 ≤ (n : Int) := by omega
    have hs4 : 0 ≤ (n : Int) - 1 := by omega
    go_enter Try.func40, Try.ntmps40
    go_wp2_with (first | go_quiet (fail))
    go_ret
    exact ⟨ret_bool HX.out.symm, by first | exact ⟨0, rfl⟩ | exact dq1 | exact dq2⟩
end Go.Proofs.Ytifaccppbhbfhaa

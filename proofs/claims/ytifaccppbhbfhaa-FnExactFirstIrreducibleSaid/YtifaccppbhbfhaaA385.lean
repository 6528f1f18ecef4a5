/- Contracts: the polynomial with a number, by the program. -/
import Derived.Test.YtifaccppbhbfhaaA384
import Derived.Test.YtifaccppbhbfhaaA381
namespace Go.Proofs.Ytifaccppbhbfhaa
set_option linter.unusedVariables false
set_option linter.unusedSimpArgs false
open Go.RowKit

/-- Digits that are laid already, and what is left of the number. -/
def WN (P d m n : Nat) (acc : List Int) : Prop := (∃ e mk, n = P ^ e + mk ∧ mk < P ^ e ∧ acc.length + e = d ∧ acc ++ pon P e mk = pon P d m) ∨ (n = 0 ∧ acc = pon P d m)
theorem WN.start {P d m : Nat} (h : m < P ^ d) : WN P d m (P ^ d + m) [] := .inl ⟨d, m, rfl, h, by simp, rfl⟩
theorem WN.len {P d m n : Nat} {acc : List Int} (h : WN P d m n acc) : acc.length ≤ d + 1 := by
  rcases h with ⟨e, mk, _, _, h3, _⟩ | ⟨_, h⟩
  · omega
  · rw [h, pon_len]; omega
theorem WN.done {P d m : Nat} {acc : List Int} (hP : 2 ≤ P) (h : WN P d m 0 acc) : acc = pon P d m := by
  rcases h with ⟨e, mk, h1, _, _, _⟩ | ⟨_, h⟩
  · have : 0 < P ^ e := Nat.pow_pos (by omega)
    omega
  · exact h
theorem WN.step {P d m n : Nat} {acc : List Int} (hP : 2 ≤ P) (h0 : 0 < n) (h : WN P d m n acc) : WN P d m (n / P) (acc ++ [((n % P : Nat) : Int)]) := by
  rcases h with ⟨e, mk, h1, h2, h3, h4⟩ | ⟨h, _⟩
  · cases e with
    | zero =>
      rw [Nat.pow_zero] at h1 h2
      obtain rfl : n = 1 := by omega
      refine .inr ⟨Nat.div_eq_of_lt (by omega), ?_⟩
      rw [Nat.mod_eq_of_lt (by omega), ← h4]; rfl
    | succ e =>
      obtain ⟨s1, s2, s3⟩ := wn_step hP h2
      rw [← h1] at s1 s2
      refine .inl ⟨e, mk / P, s2, s3, by rw [List.length_append]; show acc.length + 1 + e = d; omega, ?_⟩
      rw [s1, List.append_assoc, ← h4, pon_s]; rfl
  · omega
set_option maxRecDepth 20000 in
set_option maxHeartbeats 1000000 in
theorem i_withNumber (P d m : Nat) (hP : 2 ≤ P) (hP97 : P ≤ 97) (hd : d ≤ 4) (hm : m < P ^ d) (w : World) : Calls Try.prog 60 #[.int .i64 (P : Int), .int .i64 ((P ^ d + m : Nat) : Int)] w (RV (pon P d m) w) := by
  obtain ⟨i0, hi, hz0, hz1, hz2⟩ := info_parts infoI64
  have hpb := pow_bd hP97 hd (by omega)
  have HW0 := Lib.hid (WN.start hm)
  have hnb : P ^ d + m ≤ 200000000 := by omega
  clear hm hpb
  generalize P ^ d + m = N at *
  go_enter Try.func60, Try.ntmps60
  go_wp2_with (fail)
  go_loopw [1, 5] (fun u1 u5 wr => ∃ (n k c4 : Nat) (A4 : Option Addr) (acc : List Int), n ≤ 200000000 ∧ u1 = .int .i64 (n : Int) ∧ Hid (k = acc.length) ∧ u5 = .slice A4 k c4 ∧ Hid (WN P d m n acc) ∧ Hid (wr.ownsRow w.heap.size 2 1 (.slice A4 k c4) k (ints acc)) ∧ Below w.heap.size w wr) (fun u1 _ _ => (intOf u1).toNat)
  case atStart => exact ⟨N, 0, 0, none, [], hnb, rfl, rfl, rfl, HW0, World.ownsRow_nil _ _ _ _, Below.refl _ _⟩
  case round =>
    clear HW0
    obtain ⟨wo, rfl⟩ : ∃ wo : World, wo = wr := ⟨_, rfl⟩
    obtain ⟨n, k, c4, A4, acc, hn, rfl, HK, rfl, HW, HO, hbo⟩ := hrel
    have hk5 : k ≤ 5 := by have := HW.out.len; have := HK.out; omega
    by_cases h0 : 0 < n
    · have HW2 := Lib.hid (HW.out.step hP h0)
      have htm : ((n : Nat) : Int).tmod (P : Int) = ((n % P : Nat) : Int) := by rw [Int.tmod_eq_emod_of_nonneg (by omega)]; rfl
      have htd : ((n : Nat) : Int).tdiv (P : Int) = ((n / P : Nat) : Int) := by rw [Int.tdiv_eq_ediv_of_nonneg (by omega)]; rfl
      have hlt : n / P < n := Nat.div_lt_self h0 (by omega)
      have hPz : ((P : Int) == 0) = false := by rw [beq_eq_false_iff_ne]; omega
      have hmb : n % P < P := Nat.mod_lt _ (by omega)
      have h0' : (0 : Int) < (n : Int) := by omega
      generalize n / P = n2 at *
      generalize n % P = y at *
      have hn2b : n2 ≤ 200000000 := by omega
      have hwr : IntKind.i64.wrap ((n2 : Nat) : Int) = (n2 : Int) := IntWalk.i64_in _ (by omega)
      have HLT := Lib.hid hlt
      clear hlt h0
      go_wp2_with (at_builtin; go_loud (refine wpList_append_own _ rfl (.tmp 11) (.tmp 15) 22 rfl w.heap.size 2 i0 (.int .i64 0) 1 8 Try.underlying22 hi hz0 hz1 hz2 rfl (by omega) (.slice A4 k c4) k (ints acc) rfl (World.ownsRow.alloc HO.out _) ⟨wo.heap.size, 0, none⟩ 1 1 [.int .i64 ((y : Nat) : Int)] rfl rfl (num_src1 _ _) (by intro u hu; simp at hu; subst hu; rfl) (by simp only [maxLen]; omega) (by omega) (by have h1 := hbo.size; simp; omega) ?_; intro v7 w7 o7 g9 _; have hb7 := (hbo.alloc hbo.size _).grown g9 (by have h1 := hbo.size; simp; omega) (fun g' hg' => by have h1 := ((HO.out).lt g' hg').1; omega); obtain ⟨A7, c9, rfl, _⟩ := own_slice' o7))
      have o8 := o7
      rw [← ints_sn1] at o8
      have HO8 := Lib.hid o8
      have HK8 : Hid (k + 1 = (acc ++ [((y : Nat) : Int)]).length) := by unfold Hid; rw [List.length_append, ← HK.out]; rfl
      clear o7 o8
      go_roundw
      case rel => exact ⟨n2, k + 1, c9, A7, acc ++ [((y : Nat) : Int)], hn2b, by go_num, HK8, rfl, HW2, HO8, hb7⟩
      case measure => have := HLT.out; simp [intOf]; omega
    · obtain rfl : n = 0 := by omega
      have hd' := HW.out.done hP
      have HD := Lib.hid hd'
      clear h0 hd'
      go_wp2_with (fail)
      go_ret
      refine ⟨A4, c4, ?_, ?_, hbo⟩
      · rw [← HD.out, ← HK.out]; rfl
      · rw [← HD.out, ← HK.out]; exact HO.out
end Go.Proofs.Ytifaccppbhbfhaa

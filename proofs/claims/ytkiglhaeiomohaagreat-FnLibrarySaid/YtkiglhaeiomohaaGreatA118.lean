/- Texts alike, a text among texts. -/
import Derived.Test.YtkiglhaeiomohaaGreatA117
namespace Go.Proofs.YtkiglhaeiomohaaGreat
set_option linter.unusedVariables false
set_option linter.unusedSimpArgs false
open Go.RowKit

set_option maxHeartbeats 1000000 in
theorem l_likeTexts (A A' : Option Addr) (n c c' : Nat) (bs bs' : List ByteArray) (w : World) (B B' : Nat) (hn : n = bs.length) (hn' : n = bs'.length) (hl : n ≤ 1048576) (hs : IB w B A bs) (hs' : IB w B' A' bs') (he : bs.map (·.toList) = bs'.map (·.toList)) :
    Calls Tryz.prog 14 #[.slice A n c, .slice A' n c'] w (Q (.bool true) w) := by
  have hel : ∀ k, k < n → ((gs bs k).toList == (gs bs' k).toList) = true := fun k hk => by
    have h1 : (bs.map (·.toList))[k]? = (bs'.map (·.toList))[k]? := by rw [he]
    rw [List.getElem?_map, List.getElem?_map, List.getElem?_eq_getElem (by omega), List.getElem?_eq_getElem (by omega)] at h1
    simp at h1
    simp [gs, List.getElem?_eq_getElem (show k < bs.length by omega), List.getElem?_eq_getElem (show k < bs'.length by omega), h1]
  have HN := Lib.hid hn
  have HN' := Lib.hid hn'
  have HEL := Lib.hid hel
  clear hn hn' he hel
  go_enter Tryz.func14, Tryz.ntmps14
  go_wp2_with (fail)
  go_loopw [5] (fun u wr => ∃ k : Nat, k ≤ n ∧ u = .int .i64 k ∧ DR w wr) (fun u _ => n - (intOf u).toNat)
  case atStart => exact ⟨0, Nat.zero_le _, rfl, DR.refl _⟩
  case round =>
    obtain ⟨k, hk, rfl, hdr⟩ := hrel
    by_cases hlt : k < n
    · obtain ⟨b, off, rfl, hbb, hcell⟩ := hs (by rw [← HN.out]; omega)
      obtain ⟨b', off', rfl, hbb', hcell'⟩ := hs' (by rw [← HN'.out]; omega)
      have e1 := (hdr.cell _).trans (hcell k (by rw [← HN.out]; exact hlt))
      have e2 := (hdr.cell _).trans (hcell' k (by rw [← HN'.out]; exact hlt))
      have ht := HEL.out k hlt
      have ht' : ((gs bs k).toList != (gs bs' k).toList) = false := by rw [bne, ht]; rfl
      clear hcell hcell'
      go_wp2_with (go_quiet (fail))
      go_roundw
      case rel => exact ⟨k + 1, by omega, by go_num, by repeat (first | exact hdr | refine DR.step ?_ _)⟩
      case measure => simp [intOf]; omega
    · obtain rfl : k = n := by omega
      go_wp2_with (fail)
      go_ret
      exact ⟨rfl, hdr⟩
set_option maxHeartbeats 1000000 in
theorem l_hasText (A : Option Addr) (n c j : Nat) (bs : List ByteArray) (s : ByteArray) (w : World) (B : Nat) (hn : n = bs.length) (hl : n ≤ 1048576) (hs : IB w B A bs) (hj : j < n) (he : (gs bs j).toList = s.toList) :
    Calls Tryz.prog 21 #[.slice A n c, .string s] w (Q (.bool true) w) := by
  have HN := Lib.hid hn
  have HE := Lib.hid he
  clear hn he
  go_enter Tryz.func21, Tryz.ntmps21
  go_wp2_with (fail)
  go_loopw [5] (fun u wr => ∃ k : Nat, k ≤ j ∧ u = .int .i64 k ∧ DR w wr) (fun u _ => n - (intOf u).toNat)
  case atStart => exact ⟨0, Nat.zero_le _, rfl, DR.refl _⟩
  case round =>
    obtain ⟨k, hk, rfl, hdr⟩ := hrel
    have hlt : k < n := by omega
    obtain ⟨b, off, rfl, hbb, hcell⟩ := hs (by rw [← HN.out]; omega)
    have e1 := (hdr.cell _).trans (hcell k (by rw [← HN.out]; exact hlt))
    clear hcell
    by_cases heq : (gs bs k).toList = s.toList
    · have ht : ((gs bs k).toList == s.toList) = true := by rw [heq]; simp
      clear heq
      go_wp2_with (go_quiet (fail))
      go_ret
      exact ⟨rfl, by repeat (first | exact hdr | refine DR.step ?_ _)⟩
    · have ht : ((gs bs k).toList == s.toList) = false := by rw [beq_eq_false_iff_ne]; exact heq
      have hkj : k ≠ j := fun h => heq (by rw [h]; exact HE.out)
      clear heq
      go_wp2_with (go_quiet (fail))
      go_roundw
      case rel => exact ⟨k + 1, by omega, by go_num, by repeat (first | exact hdr | refine DR.step ?_ _)⟩
      case measure => simp [intOf]; omega
end Go.Proofs.YtkiglhaeiomohaaGreat

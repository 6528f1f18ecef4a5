/- Contracts: marking a slice and asking whether the marks are held. -/
import Derived.Test.YtcbjfdeigpdbdaaA15
import Derived.Test.YtcbjfdeigpdbdaaA7
namespace Go.Proofs.Ytcbjfdeigpdbdaa
set_option linter.unusedVariables false
set_option linter.unusedSimpArgs false
open Go.RowKit

def marks (k n : Nat) : List Int := (List.range n).map fun j => ((k + j : Nat) : Int)
theorem marks_length (k n : Nat) : (marks k n).length = n := by simp [marks]
theorem marks_at {k n j : Nat} (h : j < n) : gt (marks k n) j = ((k + j : Nat) : Int) := by simp [gt, marks, h]
def cur (k : Nat) (l : List Int) (i : Nat) : List Int := (List.range l.length).map fun j => if j < i then ((k + j : Nat) : Int) else gt l j
theorem cur_length (k : Nat) (l : List Int) (i : Nat) : (cur k l i).length = l.length := by simp [cur]
theorem cur_zero (k : Nat) (l : List Int) : cur k l 0 = l := by
  apply gt_ext (by simp [cur])
  intro j hj
  rw [cur_length] at hj
  simp [gt, cur, hj]
theorem cur_all (k : Nat) (l : List Int) : cur k l l.length = marks k l.length := by
  unfold cur marks
  apply List.map_congr_left
  intro j hj
  rw [List.mem_range] at hj
  rw [if_pos hj]
theorem cur_set {k : Nat} {l : List Int} {i : Nat} (h : i < l.length) : (ints (cur k l i)).set i (.int .i64 ((k + i : Nat) : Int)) = ints (cur k l (i + 1)) := by
  apply List.ext_getElem
  · simp [ints, cur]
  · intro j h1 h2
    simp [ints, cur] at h1 h2 ⊢
    rw [List.getElem_set]
    by_cases hj : i = j
    · subst hj; simp
    · rw [if_neg hj]
      simp
      by_cases hlt : j < i
      · rw [if_pos hlt, if_pos (by omega)]
      · rw [if_neg hlt, if_neg (by omega)]
theorem grown_trans {a b c : World} {row : Option Nat} (h : a.grownBy b row) (k : b.grownBy c row) : a.grownBy c row :=
  ⟨k.os.trans h.os, k.tape.trans h.tape, k.output.trans h.output, Nat.le_trans h.size k.size, fun i hi hn => (k.block i (Nat.lt_of_lt_of_le hi h.size) hn).trans (h.block i hi hn)⟩
theorem grown_drewN {a b : World} {row : Option Nat} (h : a.grownBy b row) (n : Nat) : a.grownBy (b.drewN n) row := ⟨h.os, h.tape, h.output, h.size, h.block⟩
theorem NS.own {w : World} {B g : Nat} {xs : List Int} (h : NS w B g xs) (hm : xs.length ≤ maxLen) : w.ownsRow B 2 1 (.slice (some ⟨g, 0, none⟩) xs.length xs.length) xs.length (ints xs) := by
  obtain ⟨h0, cs, h1, h2, h3⟩ := h
  refine ⟨by simp [ints], .inr ⟨g, xs.length, cs, rfl, h0, h1, Nat.le_refl _, hm, by omega, ?_⟩⟩
  apply List.ext_getElem
  · simp [ints]; omega
  · intro j a b
    have hj : j < xs.length := by simpa [ints] using b
    have := h3 j hj
    rw [Array.getElem?_eq_getElem (by omega)] at this
    injection this with this
    simp [ints, this, gt, List.getElem?_eq_getElem hj]
theorem own_isn {w : World} {base n c : Nat} {A : Option Addr} {l : List Int} (h : w.ownsRow base 2 1 (.slice A n c) n (ints l)) (hn : n = l.length) : IS w w.heap.size A l := by
  subst hn; exact OwnI.is h rfl
set_option maxHeartbeats 1000000 in
theorem l_markInt64S (A : Option Addr) (n c k base : Nat) (l : List Int) (w : World) (hn : n = l.length) (hl : n ≤ 1048576) (hk : k ≤ 4294967296) (ho : w.ownsRow base 2 1 (.slice A n c) n (ints l)) :
    Calls Try.prog 13 #[.slice A n c, .int .i64 k] w (fun e w' => e = .returned (.int .i64 (((k + n : Nat)) : Int)) ∧ w'.ownsRow base 2 1 (.slice A n c) n (ints (marks k n)) ∧ w.grownBy w' (Value.slice A n c).ownBlock) := by
  have HN := Lib.hid hn
  clear hn
  go_enter Try.func13, Try.ntmps13
  go_wp2_with (fail)
  go_loopw [1, 5] (fun u1 u5 wr => ∃ i : Nat, i ≤ n ∧ u5 = .int .i64 i ∧ u1 = .int .i64 (((k + i : Nat)) : Int) ∧ wr.ownsRow base 2 1 (.slice A n c) n (ints (cur k l i)) ∧ w.grownBy wr (Value.slice A n c).ownBlock) (fun _ u5 _ => n - (intOf u5).toNat)
  case atStart => exact ⟨0, Nat.zero_le _, rfl, by simp, by rw [cur_zero]; exact ho, World.grownBy.refl _ _⟩
  case round =>
    obtain ⟨i, hi, rfl, rfl, ho', hg⟩ := hrel
    by_cases hlt : i < n
    · obtain ⟨g, rfl, _, _, hc⟩ := own_src ho' (by omega)
      have hcell := hc i _ (ints_at (l := cur k l i) (by rw [cur_length, ← HN.out]; exact hlt))
      have hfr := ho'.frozenAt i
      have hst := ho'.stored i (.int .i64 (((k + i : Nat)) : Int))
      rw [cur_set (by rw [← HN.out]; exact hlt)] at hst
      have HST := Lib.hid hst
      clear hst hc
      generalize gt (cur k l i) i = ov at hcell
      have hki : (((k + i : Nat)) : Int) = (k : Int) + i := by simp
      rw [hki] at HST ⊢
      clear hki
      go_wp2_with (go_quiet (fail))
      go_roundw
      case rel => exact ⟨i + 1, by omega, by go_num, by simp; omega, HST.out.1, grown_trans hg HST.out.2⟩
      case measure => simp [intOf]; omega
    · obtain rfl : i = n := by omega
      go_wp2_with (fail)
      go_ret
      refine ⟨rfl, ?_, hg⟩
      rw [HN.out, cur_all, ← HN.out] at ho'
      exact ho'
set_option maxHeartbeats 1000000 in
theorem l_heldInt64S (A : Option Addr) (n c k B : Nat) (w : World) (hl : n ≤ 1048576) (hk : k ≤ 4294967296) (hs : IS w B A (marks k n)) :
    Calls Try.prog 14 #[.slice A n c, .int .i64 k] w (Q (.int .i64 (((k + n : Nat)) : Int)) w) := by
  go_enter Try.func14, Try.ntmps14
  go_wp2_with (fail)
  go_loopw [1, 5] (fun u1 u5 wr => ∃ i : Nat, i ≤ n ∧ u5 = .int .i64 i ∧ u1 = .int .i64 (((k + i : Nat)) : Int) ∧ DR w wr) (fun _ u5 _ => n - (intOf u5).toNat)
  case atStart => exact ⟨0, Nat.zero_le _, rfl, by simp, DR.refl _⟩
  case round =>
    obtain ⟨i, hi, rfl, rfl, hdr⟩ := hrel
    by_cases hlt : i < n
    · obtain ⟨b, off, rfl, hbb, hcell⟩ := IS.at hs (k := i) (by rw [marks_length]; exact hlt)
      have hc1 := (hdr.cell _).trans (hcell i (by rw [marks_length]; exact hlt))
      rw [marks_at hlt] at hc1
      clear hcell
      have hki : (((k + i : Nat)) : Int) = (k : Int) + i := by simp
      rw [hki] at hc1 ⊢
      clear hki
      go_wp2_with (go_quiet (fail))
      go_roundw
      case rel => exact ⟨i + 1, by omega, by go_num, by simp; omega, by repeat (first | assumption | refine DR.step ?_ _)⟩
      case measure => simp [intOf]; omega
    · obtain rfl : i = n := by omega
      go_wp2_with (fail)
      go_ret
      exact ⟨rfl, hdr⟩
end Go.Proofs.Ytcbjfdeigpdbdaa

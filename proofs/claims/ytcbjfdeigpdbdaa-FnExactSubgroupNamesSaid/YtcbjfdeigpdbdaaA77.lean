/- Contracts: spec.l22Listed, spec.l22Generate. -/
import Derived.Test.YtcbjfdeigpdbdaaA75
namespace Go.Proofs.Ytcbjfdeigpdbdaa
set_option linter.unusedVariables false
set_option linter.unusedSimpArgs false
open Go.RowKit

def lsK (sn : List Bool) (k : Nat) : List Int := ((List.range k).filter fun r => sn.getD r false).map fun r : Nat => (r : Int)
theorem lsK_all (sn : List Bool) : lsK sn sn.length = lsL sn := rfl
theorem lsK_yes {sn : List Bool} {k : Nat} (h : sn.getD k false = true) : lsK sn (k + 1) = lsK sn k ++ [(k : Int)] := by
  unfold lsK
  rw [List.range_succ, List.filter_append, List.map_append]
  simp [h] at *
  simp [h]
theorem lsK_no {sn : List Bool} {k : Nat} (h : sn.getD k false = false) : lsK sn (k + 1) = lsK sn k := by
  unfold lsK
  rw [List.range_succ, List.filter_append, List.map_append]
  simp [h] at *
  simp [h]
theorem lsK_len (sn : List Bool) (k : Nat) : (lsK sn k).length ≤ k := by
  unfold lsK
  rw [List.length_map]
  exact Nat.le_trans (List.length_filter_le _ _) (by simp)
set_option maxHeartbeats 1000000 in
theorem s_listed (g n c : Nat) (sn : List Bool) (w : World) (hn : n = sn.length) (hl : n ≤ 1048576) (hs : BB w g sn) :
    Calls Try.prog 158 #[.slice (some ⟨g, 0, none⟩) n c] w (fun e w' => ∃ v, e = .returned v ∧ w'.ownsRow w.heap.size 2 1 v (lsL sn).length (ints (lsL sn)) ∧ Below w.heap.size w w') := by
  have HN := Lib.hid hn
  clear hn
  obtain ⟨i0, hi, hz0, hz1, hz2⟩ := info_parts infoI64
  have hg := hs.lt
  go_enter Try.func158, Try.ntmps158
  go_wp2_with (fail)
  go_loopw [3, 4] (fun u3 u4 wr => ∃ k L : Nat, k ≤ n ∧ L ≤ k ∧ u4 = .int .i64 k ∧ wr.ownsRow w.heap.size 2 1 u3 L (ints (lsK sn k)) ∧ BB wr g sn ∧ Below w.heap.size w wr) (fun _ u4 _ => n - (intOf u4).toNat)
  case atStart => exact ⟨0, 0, Nat.zero_le _, Nat.le_refl _, rfl, World.ownsRow_lit w #[] 0 (Nat.le_refl _) (by simp [maxLen]) rfl, hs.alloc _, (Below.refl _ _).alloc (Nat.le_refl _) _⟩
  case round =>
    obtain ⟨ws, rfl⟩ : ∃ ws : World, ws = wr := ⟨_, rfl⟩
    obtain ⟨k, L, hk, hL, rfl, hown, hbb, hbw⟩ := hrel
    obtain ⟨A1, c1, rfl, _⟩ := own_slice' hown
    have hsz := hbw.size
    by_cases hlt : k < n
    · obtain ⟨e1, _⟩ := hbb.cell (j := k) (by rw [← HN.out]; exact hlt)
      cases hv : sn.getD k false
      · rw [hv] at e1
        have HO : Hid (ws.ownsRow w.heap.size 2 1 (.slice A1 L c1) L (ints (lsK sn (k + 1)))) := by unfold Hid; rw [lsK_no hv]; exact hown
        clear hv
        go_wp2_with (fail)
        go_roundw
        case rel => exact ⟨k + 1, L, by omega, by omega, by go_num, HO.out, hbb, hbw⟩
        case measure => simp [intOf]; omega
      · rw [hv] at e1
        have HX : Hid (lsK sn (k + 1) = lsK sn k ++ [(k : Int)]) := lsK_yes hv
        clear hv
        go_wp2_with (first
          | (at_builtin; refine wpList_append_src rfl (.tmp 16) (.tmp 18) 22 rfl w.heap.size 2 i0 (.int .i64 0) 1 8 Try.underlying22 hi hz0 hz1 hz2 rfl (by omega) (.slice A1 L c1) L (ints (lsK sn k)) rfl (World.ownsRow.alloc hown _) (some ⟨ws.heap.size, 0, none⟩) 1 1 [.int .i64 (k : Int)] rfl rfl (one_src ws _ _) (by intro h; cases h) (by intro u hu; simp at hu; subst hu; rfl) (by simp only [maxLen]; omega) (by omega) (by simp; omega) ?_; intro v1 w1 hown1 hg1 hat1))
        go_roundw
        case rel =>
          refine ⟨k + 1, L + 1, by omega, by omega, by go_num, by rw [HX.out, ints_snoc]; exact hown1, ?_, (hbw.alloc hsz _).grown hg1 (by simp; omega) (fun g hg => (hown.lt g hg).1)⟩
          exact BB.kept (hbb.alloc _) hg1 (fun e => by have := (hown.lt g e.symm).1; omega)
        case measure => simp [intOf]; omega
    · obtain rfl : k = n := by omega
      have hfin : Hid (lsK sn k = lsL sn) := by unfold Hid; rw [HN.out]; exact lsK_all sn
      have hlen : (lsL sn).length = L := by rw [← hfin.out]; have := hown.1; simp [ints] at this; omega
      rw [hfin.out] at hown
      have HO := Lib.hid hown
      have HLN := Lib.hid hlen
      clear hown hlen
      go_wp2_with (fail)
      go_ret
      exact ⟨_, rfl, by rw [HLN.out]; exact HO.out, hbw⟩
/-- How many of the flags of block g are true. -/
noncomputable def cntW (w : World) (g n : Nat) : Nat := open Classical in (List.range n).countP fun j => decide (w.cell? ⟨g, j, none⟩ = some (.bool true))
theorem trues_range : ∀ (sn : List Bool), trues sn = (List.range sn.length).countP fun j => sn.getD j false
  | [] => rfl
  | b :: sn => by
    have h := trues_range sn
    unfold trues at h ⊢
    rw [List.countP_cons, h, List.length_cons, List.range_succ_eq_map, List.countP_cons, List.countP_map]
    simp [Function.comp_def]
theorem cntW_bb {w : World} {g : Nat} {sn : List Bool} (h : BB w g sn) : cntW w g sn.length = trues sn := by
  unfold cntW
  rw [trues_range]
  refine List.countP_congr fun j hj => ?_
  simp at hj
  rw [(h.cell hj).1]
  cases sn.getD j false <;> simp
end Go.Proofs.Ytcbjfdeigpdbdaa

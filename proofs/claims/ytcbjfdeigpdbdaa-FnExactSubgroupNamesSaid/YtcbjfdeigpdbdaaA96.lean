/- IsEvenName. -/
import Derived.Test.YtcbjfdeigpdbdaaA95
namespace Go.Proofs.Ytcbjfdeigpdbdaa
set_option linter.unusedVariables false
set_option linter.unusedSimpArgs false
open Go.RowKit

theorem lsL_in {n : Nat} {sn : List Bool} (h : sn.length = fact n) : InK n (lsL sn) := fun k hk => by
  obtain ⟨r, h1, h2, _⟩ := lsL_mem.1 (gt_mem hk)
  rw [h1]
  omega
theorem RK_in (i : Nat) (hi : i < 14) : InK (lbP i) (RK (lbP i) (lbG i)) := lsL_in (RG_gi (lb_in i hi).2.2.2.2).1
theorem mem_in {n : Nat} {l : List Int} (h : InK n l) : ∀ k, k < (memL n l).length → InR n (gl (memL n l) k) := fun k hk => by
  rw [memL_len] at hk
  have e : gl (memL n l) k = wrL n (gt l k).toNat := by simp [gl, memL, gt, hk]
  rw [e]
  obtain ⟨h1, h2⟩ := h k hk
  exact wrL_in (by omega)
def oddL (n : Nat) (l : List Int) : Bool := (memL n l).any fun a => decide (parN a < 0)
/-- How many of the ranks are of even permutations. -/
def evK (n : Nat) (l : List Int) (k : Nat) : Nat := ((l.take k).filter fun x => decide (parN (wrL n x.toNat) = 1)).length
theorem evK_yes {n : Nat} {l : List Int} {k : Nat} (hk : k < l.length) (h : parN (wrL n (gt l k).toNat) = 1) : evK n l (k + 1) = evK n l k + 1 := by
  unfold evK
  rw [List.take_succ_eq_append_getElem hk, List.filter_append]
  have : l[k] = gt l k := by simp [gt, List.getElem?_eq_getElem hk]
  rw [this]
  simp [h]
theorem evK_no {n : Nat} {l : List Int} {k : Nat} (hk : k < l.length) (h : ¬ parN (wrL n (gt l k).toNat) = 1) : evK n l (k + 1) = evK n l k := by
  unfold evK
  rw [List.take_succ_eq_append_getElem hk, List.filter_append]
  have : l[k] = gt l k := by simp [gt, List.getElem?_eq_getElem hk]
  rw [this]
  simp [h]
theorem evK_le (n : Nat) (l : List Int) (k : Nat) : evK n l k ≤ k := by
  unfold evK
  exact Nat.le_trans (List.length_filter_le _ _) (by simp; omega)
theorem even_law (n : Nat) (l : List Int) : decide (evK n l l.length = l.length) = !(oddL n l) := by
  unfold evK oddL memL
  rw [List.take_length, Bool.eq_iff_iff]
  simp only [decide_eq_true_eq, Bool.not_eq_true', List.any_eq_false, List.length_filter_eq_length_iff]
  constructor
  · intro h a ha
    obtain ⟨x, hx, rfl⟩ := List.mem_map.1 ha
    have h1 := h x hx
    rw [h1]; simp
  · intro h x hx
    have h1 := h _ (List.mem_map.2 ⟨x, hx, rfl⟩)
    unfold parN at h1 ⊢
    split at h1
    · simp at h1
    · rename_i hh; rw [if_neg hh]
end Go.Proofs.Ytcbjfdeigpdbdaa

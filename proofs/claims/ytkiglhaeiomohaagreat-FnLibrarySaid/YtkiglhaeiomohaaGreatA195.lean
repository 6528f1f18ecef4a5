/- The library's groups are groups, and transitive. -/
import Derived.Test.YtkiglhaeiomohaaGreatA181
namespace Go.Proofs.YtkiglhaeiomohaaGreat
set_option linter.unusedVariables false
set_option linter.unusedSimpArgs false

theorem lib13 : ∀ i : Fin 13, grpB (lbP i) (toI (rkT i)) = true := by decide +kernel
def orF (n : Nat) (l : List Int) : List Int := lsL (fgS n (imL n l 0) l.length)
theorem lib_or : ∀ i : Fin 14, (orF (lbP i) (toI (rkT i))).length = lbP i := by decide +kernel
theorem lib_s5 : toI (rkT 13) = toI (List.range 120) := by decide +kernel
theorem lib_s5r : riseB (fact 5 : Nat) (toI (List.range 120)) = true := by decide +kernel
theorem lib_grp (i : Nat) (hi : i < 14) : grpB (lbP i) (RK (lbP i) (lbG i)) = true ∧ (orL (lbP i) (RK (lbP i) (lbG i)) 0).length = lbP i := by
  obtain ⟨h1, h2⟩ := rkT_ok ⟨i, hi⟩
  have hin : InK (lbP i) (toI (rkT i)) := toI_in h2
  have h1 : RK (lbP i) (lbG i) = toI (rkT i) := h1
  rw [h1]
  have hp := lb_in i hi
  refine ⟨?_, ?_⟩
  · by_cases h13 : i < 13
    · exact lib13 ⟨i, h13⟩
    · obtain rfl : i = 13 := by omega
      have h5 : lbP 13 = 5 := rfl
      rw [lib_s5, h5]
      have hlen : (toI (List.range 120)).length = 120 := by rw [toI_len, List.length_range]
      rw [grpB_eq (by decide) (by rw [hlen]; decide) (by decide) lib_s5r]
      refine cloB_yes fun k hk => cloR_no fun j hj => ?_
      have hj' : j < (memL 5 (toI (List.range 120))).length := by rw [memL_len]; exact hj
      have hl5 : (gl (memL 5 (toI (List.range 120))) j).length = 5 := by
        have hin5 : InK 5 (toI (List.range 120)) := toI_in (fun x hx => List.mem_range.1 hx)
        exact (mem_in hin5 j hj').1
      have hr := rk_lt (prodL (gl (memL 5 (toI (List.range 120))) k) (gl (memL 5 (toI (List.range 120))) j))
      rw [prodL_len, hl5] at hr
      unfold toI
      exact List.mem_map.2 ⟨_, List.mem_range.2 hr, rfl⟩
  · rw [orL_flags hin (by omega)]
    exact lib_or ⟨i, hi⟩
end Go.Proofs.YtkiglhaeiomohaaGreat

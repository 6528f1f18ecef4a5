/- Plain facts of the names of subgroups. -/
import Derived.Test.YtkiglhaeiomohaaGreatA190
namespace Go.Proofs.YtkiglhaeiomohaaGreat
set_option linter.unusedVariables false
set_option linter.unusedSimpArgs false

theorem chk_part {n : Nat} {l l' : List Int} {r : Nat} (h : chkC n l l' r = true) : partB (rkC (cjM n (wrL n r) l)) l' = true := by
  unfold partB
  rw [List.all_eq_true]
  unfold chkC at h
  rw [List.all_eq_true] at h
  intro x hx
  have hm := ((sorted_compact (rksL (cjM n (wrL n r) l))).2 x).1 hx
  unfold rksL cjM at hm
  obtain ⟨c, hc, rfl⟩ := List.mem_map.1 hm
  obtain ⟨b, hb, rfl⟩ := List.mem_map.1 hc
  have h2 := h b hb
  rw [decide_eq_true_eq]
  simpa using h2
theorem own_chk : ∀ i : Fin 14, chkC (lbP i) (RK (lbP i) (lbG i)) (RK (lbP i) (lbG i)) 0 = true := by decide +kernel
theorem sg_own (i : Nat) (hi : i < 14) : sgQ i i = true := by
  unfold sgQ sbB cjA
  rw [List.any_map, List.any_eq_true]
  exact ⟨0, List.mem_range.2 (by have := fact_pos (lbP i); omega), chk_part (own_chk ⟨i, hi⟩)⟩
theorem sn_mem {i k : Nat} (h : k ∈ snK (lbP i : Nat) (sgQ i) 14) : k < 14 ∧ lbP k = lbP i ∧ sgQ i k = true := by
  unfold snK nmK at h
  rw [List.mem_filter, List.mem_filter] at h
  obtain ⟨⟨h1, h2⟩, h3⟩ := h
  have h2 := of_decide_eq_true h2
  exact ⟨by simpa using h1, by omega, h3⟩
theorem sn_own (i : Nat) (hi : i < 14) : i ∈ snK (lbP i : Nat) (sgQ i) 14 := by
  unfold snK nmK
  rw [List.mem_filter, List.mem_filter]
  exact ⟨⟨by simpa using hi, by simp⟩, sg_own i hi⟩
theorem sg_div {i k : Nat} (hi : i < 14) (hk : k < 14) (hp : lbP k = lbP i) (h : sgQ i k = true) : (RK (lbP i) (lbG i)).length % (RK (lbP k) (lbG k)).length = 0 := by
  rw [← sg_same i k hi hk hp] at h
  unfold sgS at h
  rw [Bool.and_eq_true] at h
  simpa using h.1
theorem sg_type {i k : Nat} (hi : i < 14) (hk : k < 14) (hp : lbP k = lbP i) (h : sgQ i k = true) (b : List Int) (hb : b ∈ memL (lbP k) (RK (lbP k) (lbG k))) : hasT (lbP i) (RK (lbP i) (lbG i)) (tyS b) = true := by
  have ht := ty_ok ⟨i, hi⟩ ⟨k, hk⟩
  have hd := sg_div hi hk hp h
  rw [hp] at hd
  unfold tyOk at ht
  simp only [hp, hd, beq_self_eq_true, Bool.not_true, Bool.false_or] at ht
  rw [Bool.or_eq_true] at ht
  rcases ht with ht | ht
  · rw [List.all_eq_true] at ht
    rw [hp] at hb
    have h2 := ht b hb
    rw [List.any_eq_true] at h2
    obtain ⟨a, ha, h3⟩ := h2
    have h3 := eq_of_beq h3
    rw [ty_ins, ty_ins] at h3
    unfold hasT
    rw [List.any_eq_true]
    exact ⟨a, ha, by simpa using h3⟩
  · exfalso
    unfold sgQ sbB cjA at h
    rw [List.any_map, List.any_eq_true] at h
    obtain ⟨r, hr, h⟩ := h
    have hc := part_chk h
    rw [List.all_eq_true] at ht
    rw [hp] at hr hc
    have h3 := ht r hr
    rw [hc] at h3
    simp at h3
end Go.Proofs.YtkiglhaeiomohaaGreat

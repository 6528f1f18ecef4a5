/- The first block of a size: the reference's search. -/
import Derived.Test.YtglijcdnnaekkaaGreatA253
namespace Go.Proofs.YtglijcdnnaekkaaGreat
set_option linter.unusedVariables false
set_option linter.unusedSimpArgs false
open Go.RowKit

/-- The first set of points that begins with pts, has c more points from f on, and passes. -/
def fx (bl : List Int → Bool) (n c f : Nat) (pts : List Nat) : Option (List Nat) := ((subL n c f).find? fun t => bl (tJ (pts ++ t))).map (pts ++ ·)
theorem fx_zero (bl : List Int → Bool) (n f : Nat) (pts : List Nat) : fx bl n 0 f pts = if bl (tJ pts) = true then some pts else none := by
  unfold fx
  rw [sub_zero, List.find?_cons, List.append_nil]
  cases bl (tJ pts) <;> simp
theorem fx_end {bl : List Int → Bool} {n c f : Nat} {pts : List Nat} (h : ¬ f + (c + 1) ≤ n) : fx bl n (c + 1) f pts = none := by
  unfold fx
  rw [sub_end h]
  rfl
theorem find_map' {α β : Type} (g : α → β) (q : β → Bool) : ∀ l : List α, (l.map g).find? q = (l.find? fun x => q (g x)).map g
  | [] => rfl
  | x :: l => by
    rw [List.map_cons, List.find?_cons, List.find?_cons, find_map' g q l]
    cases q (g x) <;> rfl
theorem fx_step {bl : List Int → Bool} {n c f : Nat} {pts : List Nat} (h : f < n) : fx bl n (c + 1) f pts = (fx bl n c (f + 1) (pts ++ [f])).or (fx bl n (c + 1) (f + 1) pts) := by
  by_cases hc : f + (c + 1) ≤ n
  · unfold fx
    rw [sub_step hc, List.find?_append, find_map']
    have e : (fun t => bl (tJ (pts ++ f :: t))) = fun t => bl (tJ (pts ++ [f] ++ t)) := by
      funext t
      rw [List.append_assoc]
      rfl
    rw [e]
    rcases (subL n c (f + 1)).find? (fun t => bl (tJ (pts ++ [f] ++ t))) with _ | t
    · simp
    · simp
  · rw [fx_end hc, fx_end (show ¬ f + 1 + (c + 1) ≤ n by omega)]
    obtain ⟨d, rfl⟩ : ∃ d, c = d + 1 := ⟨c - 1, by omega⟩
    rw [fx_end (show ¬ f + 1 + (d + 1) ≤ n by omega)]
    rfl
theorem fx_some {bl : List Int → Bool} {n c f : Nat} {pts B : List Nat} (hf : f ≤ n) (h : fx bl n c f pts = some B) : ∃ t, B = pts ++ t ∧ t.length = c ∧ t.Pairwise (· < ·) ∧ (∀ x ∈ t, f ≤ x ∧ x < n) ∧ bl (tJ B) = true := by
  unfold fx at h
  obtain ⟨t, h1, rfl⟩ := Option.map_eq_some_iff.1 h
  have h2 := List.mem_of_find?_eq_some h1
  have h3 := List.find?_some h1
  obtain ⟨h4, h5, h6⟩ := (sub_mem hf t).1 h2
  exact ⟨t, rfl, h4, h5, h6, h3⟩
theorem find_none_of {α : Type} {q : α → Bool} {l : List α} (h : ∀ x ∈ l, q x = false) : l.find? q = none := by
  rw [List.find?_eq_none]
  intro x hx
  rw [h x hx]
  decide
theorem fx_top {n k : Nat} {l : List Int} (h1 : 1 ≤ k) (h2 : k ≤ n) : bkF n l k = (fx (blkB (memL n l)) n (k - 1) 1 [0]).map tJ := by
  obtain ⟨c, rfl⟩ : ∃ c, k = c + 1 := ⟨k - 1, by omega⟩
  unfold bkF sI fx
  rw [sub_step (show 0 + (c + 1) ≤ n by omega), find_map', List.find?_append, find_map']
  have h3 : (subL n (c + 1) (0 + 1)).find? (fun x => bkB n l (tJ x)) = none := find_none_of fun t ht => by
    obtain ⟨h4, h5, h6⟩ := (sub_mem (by omega) t).1 ht
    unfold bkB
    rw [gt_tJ, Bool.and_eq_false_iff]
    left
    cases t with
    | nil => simp at h4
    | cons x t =>
      have := (h6 x (by simp)).1
      simp
      omega
  rw [h3]
  have e : (fun x => bkB n l (tJ (0 :: x))) = fun t => blkB (memL n l) (tJ ([0] ++ t)) := by
    funext t
    unfold bkB
    rw [gt_tJ]
    simp
  rw [e, Nat.add_sub_cancel]
  rcases (subL n c (0 + 1)).find? (fun t => blkB (memL n l) (tJ ([0] ++ t))) with _ | t
  · rfl
  · rfl
/-- What the reference's search returns, as a list. -/
def fxL (bl : List Int → Bool) (n c f : Nat) (pts : List Nat) : List Nat := (fx bl n c f pts).getD []
theorem fxL_len {bl : List Int → Bool} {n c f : Nat} {pts : List Nat} (hf : f ≤ n) (hm : 0 < pts.length) : (fxL bl n c f pts).length = 0 ↔ fx bl n c f pts = none := by
  unfold fxL
  rcases h : fx bl n c f pts with _ | B
  · simp
  · obtain ⟨t, rfl, _⟩ := fx_some hf h
    simp
    intro e
    simp [e] at hm
theorem fxL_next {bl : List Int → Bool} {n c f : Nat} {pts : List Nat} (h : f < n) : (fx bl n c (f + 1) (pts ++ [f]) = none → fx bl n (c + 1) f pts = fx bl n (c + 1) (f + 1) pts) ∧ (fx bl n c (f + 1) (pts ++ [f]) ≠ none → fxL bl n (c + 1) f pts = fxL bl n c (f + 1) (pts ++ [f])) := by
  unfold fxL
  rw [fx_step h]
  rcases e : fx bl n c (f + 1) (pts ++ [f]) with _ | B
  · simp
  · simp
variable {n : Nat} {ms : List (List Int)} {pts : List Nat} {cl : List Int}
theorem tog_sub (h0 : pts.getD 0 0 = 0) (ht : Tog pts cl pts.length) (hn : ∀ x ∈ pts, x < n) : ∀ x ∈ pts, x ∈ clsN n cl 0 := fun x hx => by
  obtain ⟨j, hj, rfl⟩ := List.mem_iff_getElem.1 hx
  have := ht j hj
  rw [h0] at this
  refine mem_cls.2 ⟨hn _ hx, ?_⟩
  simpa [List.getElem?_eq_getElem hj] using this
theorem fx_block (hG : PG n ms) (h : Cls n ms pts cl) (hc : Cong n ms cl) (h0 : pts.getD 0 0 = 0) (ht : Tog pts cl pts.length) (hn : ∀ x ∈ pts, x < n) (hr : pts.Pairwise (· < ·)) (f : Nat) (hk : (clsN n cl 0).length = pts.length) : fxL (blkB ms) n 0 f pts = clsN n cl 0 := by
  have e : pts = clsN n cl 0 := nat_sub_eq hr (cls_rise n cl 0) (tog_sub h0 ht hn) (by omega)
  unfold fxL
  rw [fx_zero, e, (blk_iff hG (cls_rise n cl 0) (fun x hx => (mem_cls.1 hx).1)).2 (cls_blk hG h hc 0)]
  rfl
theorem fx_big (hG : PG n ms) (h : Cls n ms pts cl) (h0 : pts.getD 0 0 = 0) (hm : 0 < pts.length) (hn : ∀ x ∈ pts, x < n) (hr : pts.Pairwise (· < ·)) {c f : Nat} (hf : f ≤ n) (hlt : ∀ x ∈ pts, x < f) (hk : pts.length + c < (clsN n cl 0).length) : fxL (blkB ms) n c f pts = [] := by
  unfold fxL
  rcases e : fx (blkB ms) n c f pts with _ | B
  · rfl
  · exfalso
    obtain ⟨t, rfl, h1, h2, h3, h4⟩ := fx_some hf e
    have hp : (pts ++ t).Pairwise (· < ·) := List.pairwise_append.2 ⟨hr, h2, fun a ha b hb => by have := hlt a ha; have := (h3 b hb).1; omega⟩
    have hB := (blk_iff hG hp (fun x hx => by
      rcases List.mem_append.1 hx with hx | hx
      · exact hn x hx
      · exact (h3 x hx).2)).1 h4
    have hz : 0 ∈ pts := by
      have : pts.getD 0 0 ∈ pts := by simp [List.getElem?_eq_getElem hm]
      rwa [h0] at this
    have h6 := nat_sub_len (cls_rise n cl 0) (cls_low hG h (x := 0) (by have := hn 0 hz; omega) hB (by simp [hz]) fun y hy => by simp [hy])
    rw [List.length_append] at h6
    omega
end Go.Proofs.YtglijcdnnaekkaaGreat

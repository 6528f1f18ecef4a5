/- Primitive groups: what both sides compute. -/
import Derived.Test.YtglijcdnnaekkaaGreatA252
import Derived.Test.YtglijcdnnaekkaaGreatA241
import Derived.Test.YtglijcdnnaekkaaGreatA209
namespace Go.Proofs.YtglijcdnnaekkaaGreat
set_option linter.unusedVariables false
set_option linter.unusedSimpArgs false
open Go.RowKit

variable {n : Nat} {ms : List (List Int)} {pts : List Nat} {c : List Int}

theorem cls_le (hG : PG n ms) (h : Cls n ms pts c) (hc : Cong n ms c) {a : List Int} (ha : a ∈ ms) {x y : Nat} (hx : x < n) (hy : ap c (ap a x) = ap c y) : (clsN n c x).length ≤ (clsN n c y).length := by
  refine inj_len (ap a) (List.Nodup.sublist List.filter_sublist List.nodup_range) (fun q hq => ?_) (fun q hq r hr e => ?_)
  · obtain ⟨hq1, hq2⟩ := mem_cls.1 hq
    refine mem_cls.2 ⟨hG.lt ha hq1, ?_⟩
    rw [hc a ha q hq1, hq2, ← hc a ha x hx, hy]
  · exact hG.inj a ha q r (mem_cls.1 hq).1 (mem_cls.1 hr).1 e
theorem cls_size (hG : PG n ms) (ht : ∀ j, j < n → ∃ a ∈ ms, ap a 0 = j) (h : Cls n ms pts c) (hc : Cong n ms c) {x : Nat} (hx : x < n) : (clsN n c x).length = (clsN n c 0).length := by
  obtain ⟨a, ha, e⟩ := ht x hx
  obtain ⟨b, hb, hi⟩ := hG.inv a ha
  have h0 : 0 < n := by omega
  refine Nat.le_antisymm (cls_le hG h hc hb hx ?_) (cls_le hG h hc ha h0 (by rw [e]))
  rw [← e, (hi 0 h0).1]
theorem cls_div (hG : PG n ms) (ht : ∀ j, j < n → ∃ a ∈ ms, ap a 0 = j) (h : Cls n ms pts c) (hc : Cong n ms c) : n % (clsN n c 0).length = 0 := by
  have h1 : lsum (List.range n) (fun q => lsum (List.range n) (fun r => if ap c q = r then 1 else 0)) = n := by
    rw [lsum_congr (g := fun _ => 1) (fun q hq => lsum_one n (ap c q) (h.lt (List.mem_range.1 hq)) fun _ => 1), lsum_len, List.length_range]
  rw [lsum_swap] at h1
  have h2 : lsum (List.range n) (fun r => lsum (List.range n) (fun q => if ap c q = r then 1 else 0)) = lsum (List.range n) (fun r => if (ap c r == r) = true then (clsN n c 0).length else 0) := by
    refine lsum_congr fun r hr => ?_
    have hr := List.mem_range.1 hr
    have h3 := lsum_filter (fun q => ap c q == r) 1 (List.range n)
    have h4 : lsum (List.range n) (fun q => if ap c q = r then 1 else 0) = ((List.range n).filter fun q => ap c q == r).length := by
      rw [← Nat.mul_one ((List.range n).filter fun q => ap c q == r).length, ← h3]
      exact lsum_congr fun q _ => by simp
    rw [h4]
    by_cases e : ap c r = r
    · rw [if_pos (by rw [e]; simp), ← cls_size hG ht h hc hr]
      unfold clsN
      rw [e]
    · rw [if_neg (by simp [e]), List.length_eq_zero_iff, List.filter_eq_nil_iff]
      intro q hq e2
      have e2 : ap c q = r := by simpa using e2
      have := h.idem q (List.mem_range.1 hq)
      rw [e2] at this
      exact e this
  rw [h2, lsum_filter (fun r => ap c r == r)] at h1
  exact (congrArg (· % (clsN n c 0).length) h1).symm.trans (Nat.mul_mod_left _ _)
/-- No proper block of a size that divides the number of points. -/
def prB (n : Nat) (l : List Int) : Bool := (List.range n).all fun k => decide (k < 2) || (decide (n % k ≠ 0) || (bkF n l k).isNone)
theorem prB_yes {n : Nat} {l : List Int} (h : ∀ k, 2 ≤ k → k < n → n % k ≠ 0 ∨ bkF n l k = none) : prB n l = true := by
  unfold prB
  rw [List.all_eq_true]
  intro k hk
  by_cases h2 : k < 2
  · simp [h2]
  · rcases h k (by omega) (List.mem_range.1 hk) with e | e
    · simp [e]
    · simp [e]
theorem prB_no {n : Nat} {l : List Int} {k : Nat} (h1 : 2 ≤ k) (h2 : k < n) (h3 : n % k = 0) (h4 : bkF n l k ≠ none) : prB n l = false := by
  unfold prB
  rw [Bool.eq_false_iff]
  intro e
  have := List.all_eq_true.1 e k (List.mem_range.2 h2)
  rw [decide_eq_false (by omega), decide_eq_false (by omega)] at this
  simp at this
  exact h4 this
theorem bkF_some {n k : Nat} {l : List Int} {p : List Int} (h : bkF n l k = some p) : ∃ B : List Nat, p = tJ B ∧ B.length = k ∧ B.Pairwise (· < ·) ∧ (∀ x ∈ B, x < n) ∧ gt p 0 = 0 ∧ blkB (memL n l) p = true := by
  unfold bkF at h
  have h1 := List.mem_of_find?_eq_some h
  have h2 := List.find?_some h
  unfold bkB at h2
  rw [Bool.and_eq_true, decide_eq_true_eq] at h2
  unfold sI at h1
  obtain ⟨B, h3, rfl⟩ := List.mem_map.1 h1
  obtain ⟨h4, h5, h6⟩ := (sub_mem (Nat.zero_le _) B).1 h3
  exact ⟨B, rfl, h4, h5, fun x hx => (h6 x hx).2, h2.1, h2.2⟩
theorem bkF_none {n k : Nat} {l : List Int} {B : List Nat} (h : bkF n l k = none) (h1 : B.length = k) (h2 : B.Pairwise (· < ·)) (h3 : ∀ x ∈ B, x < n) (h4 : gt (tJ B) 0 = 0) (h5 : blkB (memL n l) (tJ B) = true) : False := by
  unfold bkF at h
  have h6 := List.find?_eq_none.1 h (tJ B) (List.mem_map.2 ⟨B, (sub_mem (Nat.zero_le _) B).2 ⟨h1, h2, fun x hx => ⟨Nat.zero_le _, h3 x hx⟩⟩, rfl⟩)
  unfold bkB at h6
  rw [h4, h5] at h6
  simp at h6
theorem first0 {B : List Nat} (h : B.Pairwise (· < ·)) (h0 : 0 ∈ B) : gt (tJ B) 0 = 0 := by
  cases B with
  | nil => simp at h0
  | cons x B =>
    rw [gt_tJ]
    simp only [List.getD_cons_zero]
    rcases List.mem_cons.1 h0 with e | e
    · omega
    · have := (List.pairwise_cons.1 h).1 0 e
      omega
theorem prim_no {n p : Nat} {l c : List Int} (hG : PG n (memL n l)) (ht : ∀ j, j < n → ∃ a ∈ memL n l, ap a 0 = j) (hp1 : 1 ≤ p) (hp : p < n) (h : Cls n (memL n l) [0, p] c) (hc : Cong n (memL n l) c) (hxy : ap c 0 = ap c p) (hne : (clsN n c 0).length ≠ n) : prB n l = false := by
  have h0 : 0 ∈ clsN n c 0 := mem_cls.2 ⟨by omega, rfl⟩
  have hpm : p ∈ clsN n c 0 := mem_cls.2 ⟨hp, hxy.symm⟩
  have hr := cls_rise n c 0
  have hle : (clsN n c 0).length ≤ n := by
    unfold clsN
    refine Nat.le_trans (List.length_filter_le _ _) ?_
    simp
  have h2 : 2 ≤ (clsN n c 0).length := by
    have := nat_sub_len (S := [0, p]) (T := clsN n c 0) (by simp; omega) (by intro x hx; simp at hx; rcases hx with rfl | rfl <;> assumption)
    simpa using this
  have hb := (blk_iff hG hr (fun x hx => (mem_cls.1 hx).1)).2 (cls_blk hG h hc 0)
  exact prB_no h2 (by omega) (cls_div hG ht h hc) fun e => bkF_none e rfl hr (fun x hx => (mem_cls.1 hx).1) (first0 hr h0) hb
theorem prim_yes {n : Nat} {l : List Int} (hG : PG n (memL n l)) (h : ∀ p, 1 ≤ p → p < n → ∃ c, Cls n (memL n l) [0, p] c ∧ Cong n (memL n l) c ∧ ap c 0 = ap c p ∧ (clsN n c 0).length = n) : prB n l = true := by
  refine prB_yes fun k hk1 hk2 => .inr ?_
  rcases e : bkF n l k with _ | p
  · rfl
  · exfalso
    obtain ⟨B, rfl, h1, h2, h3, h4, h5⟩ := bkF_some e
    match B, h1, h2, h3, h4, h5 with
    | x :: y :: B, h1, h2, h3, h4, h5 =>
      have hx : x = 0 := by rw [gt_tJ] at h4; simp at h4; exact h4
      subst hx
      have hy : 0 < y := (List.pairwise_cons.1 h2).1 y (by simp)
      obtain ⟨c, g1, g2, g3, g4⟩ := h y hy (h3 y (by simp))
      have hB := (blk_iff hG h2 h3).1 h5
      have := nat_sub_len (cls_rise n c 0) (cls_low hG g1 (x := 0) (by omega) hB (by simp) (by intro z hz; simp at hz ⊢; omega))
      omega
    | [x], h1, _, _, _, _ => simp at h1; omega
    | [], h1, _, _, _, _ => simp at h1; omega
/-- What IsPrimitiveGroup answers. -/
def prV (p : Int) (l : List Int) : Bool := grpB p l && (decide ((orL p.toNat l 0).length = p.toNat) && prB p.toNat l)
theorem prV_no {p : Int} {l : List Int} (h : grpB p l = false) : prV p l = false ∧ mvC p l = 1 := by
  unfold prV mvC
  rw [h]
  exact ⟨rfl, rfl⟩
theorem prV_yes {n : Nat} {l : List Int} (h : grpB n l = true) : prV n l = (decide ((orL n l 0).length = n) && prB n l) ∧ mvC n l = 0 := by
  unfold prV mvC
  rw [h, Int.toNat_natCast]
  exact ⟨by simp, rfl⟩
end Go.Proofs.YtglijcdnnaekkaaGreat

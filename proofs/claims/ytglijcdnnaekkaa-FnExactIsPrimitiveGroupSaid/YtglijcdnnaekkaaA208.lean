/- BlockWith: the program's search. -/
import Derived.Test.YtglijcdnnaekkaaA207
namespace Go.Proofs.Ytglijcdnnaekkaa
set_option linter.unusedVariables false
set_option linter.unusedSimpArgs false
open Go.RowKit

def RVC (out : List Int) (code : Int) (w : World) (e : Ending) (w' : World) : Prop := ∃ A c, e = .returned (.tuple #[.slice A out.length c, .int .i64 code]) ∧ w'.ownsRow w.heap.size 2 1 (.slice A out.length c) out.length (ints out) ∧ Below w.heap.size w w'
theorem rvc_none (w w' : World) (code : Int) (hb : Below w.heap.size w w') : RVC [] code w (.returned (.tuple #[.slice none 0 0, .int .i64 code])) w' := ⟨none, 0, rfl, World.ownsRow_nil _ _ _ _, hb⟩
def gdB (ms : List (List Int)) (x y : Nat) (pts : List Int) : Bool := decide ((x : Int) ∈ pts) && (decide ((y : Int) ∈ pts) && blkB ms pts)
theorem sI_at {n k j : Nat} (h : j < (sI n k 0).length) : ∃ pts, pts ∈ subL n k 0 ∧ gl (sI n k 0) j = tJ pts := by
  have h1 := gl_mem h
  unfold sI at h1
  obtain ⟨pts, h2, h3⟩ := List.mem_map.1 h1
  exact ⟨pts, h2, h3.symm⟩
theorem sI_in {n k j : Nat} (h : j < (sI n k 0).length) : (gl (sI n k 0) j).length = k ∧ ∀ i, i < k → 0 ≤ gt (gl (sI n k 0) j) i ∧ gt (gl (sI n k 0) j) i < (n : Int) := by
  obtain ⟨pts, h1, h2⟩ := sI_at h
  obtain ⟨h3, h4, h5⟩ := (sub_mem (Nat.zero_le _) pts).1 h1
  rw [h2]
  refine ⟨by rw [tJ_len]; exact h3, fun i hi => ?_⟩
  have h6 : gt (tJ pts) i ∈ tJ pts := gt_mem (by rw [tJ_len]; omega)
  obtain ⟨q, hq, e⟩ := mem_tJ.1 h6
  have := h5 q hq
  omega
theorem gd_iff {ms : List (List Int)} {x y : Nat} {pts : List Nat} : gdB ms x y (tJ pts) = true ↔ (x ∈ pts ∧ y ∈ pts ∧ blkB ms (tJ pts) = true) := by
  unfold gdB
  rw [Bool.and_eq_true, Bool.and_eq_true, decide_eq_true_eq, decide_eq_true_eq, mem_tJ', mem_tJ']
theorem gd_found {n : Nat} {ms : List (List Int)} {c : List Int} {x y k j : Nat} (hG : PG n ms) (h : Cls n ms [x, y] c) (hc : Cong n ms c) (hx : x < n) (hy : y < n) (hxy : ap c x = ap c y) (hk : k ≤ (clsN n c x).length) (hj : j < (sI n k 0).length) (hg : gdB ms x y (gl (sI n k 0) j) = true) : gl (sI n k 0) j = tJ (clsN n c x) := by
  obtain ⟨pts, h1, h2⟩ := sI_at hj
  rw [h2] at hg ⊢
  obtain ⟨f1, f2⟩ := find_cls hG h hc hx hy hxy h1
  have hg := gd_iff.1 hg
  by_cases hlt : k < (clsN n c x).length
  · exact absurd hg (f1 hlt)
  · rw [f2 (by omega) hg]
theorem gd_last {n : Nat} {ms : List (List Int)} {c : List Int} {x y k : Nat} (hG : PG n ms) (h : Cls n ms [x, y] c) (hc : Cong n ms c) (hx : x < n) (hy : y < n) (hxy : ap c x = ap c y) (hk : k ≤ (clsN n c x).length) (hno : ∀ j, j < (sI n k 0).length → gdB ms x y (gl (sI n k 0) j) = false) : k < (clsN n c x).length := by
  apply Classical.byContradiction
  intro hlt
  obtain rfl : k = (clsN n c x).length := by omega
  obtain ⟨h1, h2, h3, h4⟩ := cls_found hG h hc hx hy hxy
  obtain ⟨j, hj, e⟩ := List.mem_iff_getElem.1 h1
  have hj' : j < (sI n (clsN n c x).length 0).length := by unfold sI; rw [List.length_map]; exact hj
  have h5 := hno j hj'
  have h6 : gl (sI n (clsN n c x).length 0) j = tJ (clsN n c x) := by
    unfold sI
    simp [gl, List.getElem?_eq_getElem hj, e]
  rw [h6, gd_iff.2 ⟨h2, h3, h4⟩] at h5
  exact absurd h5 (by decide)
/-- What BlockWith answers. -/
def BWP (p : Int) (l : List Int) (a b : Int) (out : List Int) (code : Int) : Prop :=
  (¬ mvL p l [a, b] = 0 ∧ out = [] ∧ code = mvL p l [a, b]) ∨
  (∃ n : Nat, p = n ∧ grpB n l = true ∧ mvL p l [a, b] = 0 ∧ ¬ (orL n l 0).length = n ∧ out = [] ∧ code = 5) ∨
  (∃ n x y : Nat, ∃ c, p = n ∧ a = x ∧ b = y ∧ x < n ∧ y < n ∧ grpB n l = true ∧ mvL p l [a, b] = 0 ∧ (orL n l 0).length = n ∧ Cls n (memL n l) [x, y] c ∧ Cong n (memL n l) c ∧ ap c x = ap c y ∧ out = tJ (clsN n c x) ∧ code = 0)
theorem two_isn (w : World) (a b : Int) : IS (w.alloc (.cells #[.int .i64 a, .int .i64 b] 2)) (w.alloc (.cells #[.int .i64 a, .int .i64 b] 2)).heap.size (some ⟨w.heap.size, 0, none⟩) [a, b] :=
  own_isn (World.ownsRow_lit (base := w.heap.size) w #[.int .i64 a, .int .i64 b] 2 (Nat.le_refl _) (by simp [maxLen]) rfl) rfl
end Go.Proofs.Ytglijcdnnaekkaa

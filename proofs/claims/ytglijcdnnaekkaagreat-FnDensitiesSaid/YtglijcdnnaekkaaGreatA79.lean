/- Contracts: the groups of the library by their names. -/
import Derived.Test.YtglijcdnnaekkaaGreatA78
namespace Go.Proofs.YtglijcdnnaekkaaGreat
set_option linter.unusedVariables false
set_option linter.unusedSimpArgs false
open Go.RowKit

/-- The library: names, points, generators. -/
def LB : List (List UInt8 × Nat × List (List Int)) := [
  ([67, 49], 1, [[0]]),
  ([67, 50], 2, [[1, 0]]),
  ([67, 51], 3, [[1, 2, 0]]),
  ([83, 51], 3, [[1, 2, 0], [1, 0, 2]]),
  ([67, 52], 4, [[1, 2, 3, 0]]),
  ([86, 52], 4, [[1, 0, 3, 2], [2, 3, 0, 1]]),
  ([68, 52], 4, [[1, 2, 3, 0], [2, 1, 0, 3]]),
  ([65, 52], 4, [[1, 2, 0, 3], [1, 0, 3, 2]]),
  ([83, 52], 4, [[1, 2, 3, 0], [1, 0, 2, 3]]),
  ([67, 53], 5, [[1, 2, 3, 4, 0]]),
  ([68, 53], 5, [[1, 2, 3, 4, 0], [0, 4, 3, 2, 1]]),
  ([70, 53], 5, [[1, 2, 3, 4, 0], [0, 2, 4, 1, 3]]),
  ([65, 53], 5, [[1, 2, 3, 4, 0], [1, 2, 0, 3, 4]]),
  ([83, 53], 5, [[1, 2, 3, 4, 0], [1, 0, 2, 3, 4]])]
def lbN (i : Nat) : List UInt8 := (LB.getD i ([], 0, [])).1
def lbP (i : Nat) : Nat := (LB.getD i ([], 0, [])).2.1
def lbG (i : Nat) : List (List Int) := (LB.getD i ([], 0, [])).2.2
/-- A name that is none of the library's. -/
def NoN (s : ByteArray) : Prop := ∀ i, i < 14 → s.toList ≠ lbN i
theorem lb_in : ∀ i, i < 14 → 1 ≤ lbP i ∧ lbP i ≤ 5 ∧ 0 < (lbG i).length ∧ (lbG i).length ≤ 2 ∧ ∀ g ∈ lbG i, InR (lbP i) g := by
  have h : ∀ i : Fin 14, 1 ≤ lbP i ∧ lbP i ≤ 5 ∧ 0 < (lbG i).length ∧ (lbG i).length ≤ 2 ∧ ∀ g ∈ lbG i, g.length = lbP i ∧ ∀ k : Fin 5, k < lbP i → 0 ≤ gt g k ∧ gt g k < (lbP i : Int) := by decide +kernel
  intro i hi
  obtain ⟨h1, h2, h3, h4, h5⟩ := h ⟨i, hi⟩
  exact ⟨h1, h2, h3, h4, fun g hg => ⟨(h5 g hg).1, fun k hk => (h5 g hg).2 ⟨k, by simp at h2 ⊢; omega⟩ hk⟩⟩
def LG (gens : List (List Int)) (w : World) (e : Ending) (w' : World) : Prop := ∃ A c, e = .returned (.slice A gens.length c) ∧ II w' w'.heap.size A gens ∧ Below w.heap.size w w'
theorem ii_one (w : World) (r : List Int) (hm : r.length ≤ maxLen) : II ((w.alloc (.cells (ints r).toArray 2)).alloc (.cells #[.slice (some ⟨w.heap.size, 0, none⟩) r.length r.length] 24)) (w.heap.size + 1 + 1) (some ⟨w.heap.size + 1, 0, none⟩) [r] := fun _ => by
  have B1 := (BK.new w 2 (ints r).toArray).alloc (.cells #[.slice (some ⟨w.heap.size, 0, none⟩) r.length r.length] 24)
  have B2 := BK.new (w.alloc (.cells (ints r).toArray 2)) 24 #[.slice (some ⟨w.heap.size, 0, none⟩) r.length r.length]
  rw [World.size_alloc] at B2
  refine ⟨_, _, rfl, by omega, fun k hk => ?_⟩
  simp at hk
  subst hk
  have e : gl [r] 0 = r := rfl
  rw [e]
  refine ⟨_, _, (B2.cell 0).trans rfl, Nat.le_refl _, hm, fun _ => ⟨_, _, rfl, by omega, fun j hj => ?_⟩⟩
  rw [Nat.zero_add, B1.cell j]
  simpa using ints_at hj
theorem ii_two (w : World) (r q : List Int) (hm : r.length ≤ maxLen) (hm' : q.length ≤ maxLen) : II (((w.alloc (.cells (ints r).toArray 2)).alloc (.cells (ints q).toArray 2)).alloc (.cells #[.slice (some ⟨w.heap.size, 0, none⟩) r.length r.length, .slice (some ⟨w.heap.size + 1, 0, none⟩) q.length q.length] 24)) (w.heap.size + 1 + 1 + 1) (some ⟨w.heap.size + 1 + 1, 0, none⟩) [r, q] := fun _ => by
  have B1 := ((BK.new w 2 (ints r).toArray).alloc (.cells (ints q).toArray 2)).alloc (.cells #[.slice (some ⟨w.heap.size, 0, none⟩) r.length r.length, .slice (some ⟨w.heap.size + 1, 0, none⟩) q.length q.length] 24)
  have B2 := (BK.new (w.alloc (.cells (ints r).toArray 2)) 2 (ints q).toArray).alloc (.cells #[.slice (some ⟨w.heap.size, 0, none⟩) r.length r.length, .slice (some ⟨w.heap.size + 1, 0, none⟩) q.length q.length] 24)
  have B3 := BK.new ((w.alloc (.cells (ints r).toArray 2)).alloc (.cells (ints q).toArray 2)) 24 #[.slice (some ⟨w.heap.size, 0, none⟩) r.length r.length, .slice (some ⟨w.heap.size + 1, 0, none⟩) q.length q.length]
  rw [World.size_alloc] at B2
  rw [World.size_alloc, World.size_alloc] at B3
  refine ⟨_, _, rfl, by omega, fun k hk => ?_⟩
  simp at hk
  rcases Nat.lt_or_ge k 1 with h | h
  · obtain rfl : k = 0 := by omega
    have e : gl [r, q] 0 = r := rfl
    rw [e]
    refine ⟨_, _, (B3.cell 0).trans rfl, Nat.le_refl _, hm, fun _ => ⟨_, _, rfl, by omega, fun j hj => ?_⟩⟩
    rw [Nat.zero_add, B1.cell j]
    simpa using ints_at hj
  · obtain rfl : k = 1 := by omega
    have e : gl [r, q] 1 = q := rfl
    rw [e]
    refine ⟨_, _, (B3.cell 1).trans rfl, Nat.le_refl _, hm', fun _ => ⟨_, _, rfl, by omega, fun j hj => ?_⟩⟩
    rw [Nat.zero_add, B2.cell j]
    simpa using ints_at hj
theorem three_alloc (w : World) (a b c : Obj) : Below w.heap.size w (((w.alloc a).alloc b).alloc c) := (two_alloc w a b).alloc (by simp; omega) c
theorem s_gens_0 (s : ByteArray) (hs : s.toList = [67, 49]) (w : World) : Calls Tryz.prog 158 #[.string s] w (LG [[0]] w) := by
  have t0 : (s.toList == [67, 49]) = true := by rw [hs]; rfl
  clear hs
  go_enter Tryz.func158, Tryz.ntmps158
  go_wp2_with (fail)
  go_ret
  exact ⟨_, _, rfl, by simpa [ints] using ii_one w [0] (by simp [maxLen]), two_alloc w _ _⟩
theorem s_gens_1 (s : ByteArray) (hs : s.toList = [67, 50]) (w : World) : Calls Tryz.prog 158 #[.string s] w (LG [[1, 0]] w) := by
  have t0 : (s.toList == [67, 49]) = false := by rw [hs]; rfl
  have t1 : (s.toList == [67, 50]) = true := by rw [hs]; rfl
  clear hs
  go_enter Tryz.func158, Tryz.ntmps158
  go_wp2_with (fail)
  go_ret
  exact ⟨_, _, rfl, by simpa [ints] using ii_one w [1, 0] (by simp [maxLen]), two_alloc w _ _⟩
theorem s_gens_2 (s : ByteArray) (hs : s.toList = [67, 51]) (w : World) : Calls Tryz.prog 158 #[.string s] w (LG [[1, 2, 0]] w) := by
  have t0 : (s.toList == [67, 49]) = false := by rw [hs]; rfl
  have t1 : (s.toList == [67, 50]) = false := by rw [hs]; rfl
  have t2 : (s.toList == [67, 51]) = true := by rw [hs]; rfl
  clear hs
  go_enter Tryz.func158, Tryz.ntmps158
  go_wp2_with (fail)
  go_ret
  exact ⟨_, _, rfl, by simpa [ints] using ii_one w [1, 2, 0] (by simp [maxLen]), two_alloc w _ _⟩
theorem s_gens_3 (s : ByteArray) (hs : s.toList = [83, 51]) (w : World) : Calls Tryz.prog 158 #[.string s] w (LG [[1, 2, 0], [1, 0, 2]] w) := by
  have t0 : (s.toList == [67, 49]) = false := by rw [hs]; rfl
  have t1 : (s.toList == [67, 50]) = false := by rw [hs]; rfl
  have t2 : (s.toList == [67, 51]) = false := by rw [hs]; rfl
  have t3 : (s.toList == [83, 51]) = true := by rw [hs]; rfl
  clear hs
  go_enter Tryz.func158, Tryz.ntmps158
  go_wp2_with (fail)
  go_ret
  exact ⟨_, _, rfl, by simpa [ints] using ii_two w [1, 2, 0] [1, 0, 2] (by simp [maxLen]) (by simp [maxLen]), three_alloc w _ _ _⟩
theorem s_gens_4 (s : ByteArray) (hs : s.toList = [67, 52]) (w : World) : Calls Tryz.prog 158 #[.string s] w (LG [[1, 2, 3, 0]] w) := by
  have t0 : (s.toList == [67, 49]) = false := by rw [hs]; rfl
  have t1 : (s.toList == [67, 50]) = false := by rw [hs]; rfl
  have t2 : (s.toList == [67, 51]) = false := by rw [hs]; rfl
  have t3 : (s.toList == [83, 51]) = false := by rw [hs]; rfl
  have t4 : (s.toList == [67, 52]) = true := by rw [hs]; rfl
  clear hs
  go_enter Tryz.func158, Tryz.ntmps158
  go_wp2_with (fail)
  go_ret
  exact ⟨_, _, rfl, by simpa [ints] using ii_one w [1, 2, 3, 0] (by simp [maxLen]), two_alloc w _ _⟩
theorem s_gens_5 (s : ByteArray) (hs : s.toList = [86, 52]) (w : World) : Calls Tryz.prog 158 #[.string s] w (LG [[1, 0, 3, 2], [2, 3, 0, 1]] w) := by
  have t0 : (s.toList == [67, 49]) = false := by rw [hs]; rfl
  have t1 : (s.toList == [67, 50]) = false := by rw [hs]; rfl
  have t2 : (s.toList == [67, 51]) = false := by rw [hs]; rfl
  have t3 : (s.toList == [83, 51]) = false := by rw [hs]; rfl
  have t4 : (s.toList == [67, 52]) = false := by rw [hs]; rfl
  have t5 : (s.toList == [86, 52]) = true := by rw [hs]; rfl
  clear hs
  go_enter Tryz.func158, Tryz.ntmps158
  go_wp2_with (fail)
  go_ret
  exact ⟨_, _, rfl, by simpa [ints] using ii_two w [1, 0, 3, 2] [2, 3, 0, 1] (by simp [maxLen]) (by simp [maxLen]), three_alloc w _ _ _⟩
theorem s_gens_6 (s : ByteArray) (hs : s.toList = [68, 52]) (w : World) : Calls Tryz.prog 158 #[.string s] w (LG [[1, 2, 3, 0], [2, 1, 0, 3]] w) := by
  have t0 : (s.toList == [67, 49]) = false := by rw [hs]; rfl
  have t1 : (s.toList == [67, 50]) = false := by rw [hs]; rfl
  have t2 : (s.toList == [67, 51]) = false := by rw [hs]; rfl
  have t3 : (s.toList == [83, 51]) = false := by rw [hs]; rfl
  have t4 : (s.toList == [67, 52]) = false := by rw [hs]; rfl
  have t5 : (s.toList == [86, 52]) = false := by rw [hs]; rfl
  have t6 : (s.toList == [68, 52]) = true := by rw [hs]; rfl
  clear hs
  go_enter Tryz.func158, Tryz.ntmps158
  go_wp2_with (fail)
  go_ret
  exact ⟨_, _, rfl, by simpa [ints] using ii_two w [1, 2, 3, 0] [2, 1, 0, 3] (by simp [maxLen]) (by simp [maxLen]), three_alloc w _ _ _⟩
theorem s_gens_7 (s : ByteArray) (hs : s.toList = [65, 52]) (w : World) : Calls Tryz.prog 158 #[.string s] w (LG [[1, 2, 0, 3], [1, 0, 3, 2]] w) := by
  have t0 : (s.toList == [67, 49]) = false := by rw [hs]; rfl
  have t1 : (s.toList == [67, 50]) = false := by rw [hs]; rfl
  have t2 : (s.toList == [67, 51]) = false := by rw [hs]; rfl
  have t3 : (s.toList == [83, 51]) = false := by rw [hs]; rfl
  have t4 : (s.toList == [67, 52]) = false := by rw [hs]; rfl
  have t5 : (s.toList == [86, 52]) = false := by rw [hs]; rfl
  have t6 : (s.toList == [68, 52]) = false := by rw [hs]; rfl
  have t7 : (s.toList == [65, 52]) = true := by rw [hs]; rfl
  clear hs
  go_enter Tryz.func158, Tryz.ntmps158
  go_wp2_with (fail)
  go_ret
  exact ⟨_, _, rfl, by simpa [ints] using ii_two w [1, 2, 0, 3] [1, 0, 3, 2] (by simp [maxLen]) (by simp [maxLen]), three_alloc w _ _ _⟩
theorem s_gens_8 (s : ByteArray) (hs : s.toList = [83, 52]) (w : World) : Calls Tryz.prog 158 #[.string s] w (LG [[1, 2, 3, 0], [1, 0, 2, 3]] w) := by
  have t0 : (s.toList == [67, 49]) = false := by rw [hs]; rfl
  have t1 : (s.toList == [67, 50]) = false := by rw [hs]; rfl
  have t2 : (s.toList == [67, 51]) = false := by rw [hs]; rfl
  have t3 : (s.toList == [83, 51]) = false := by rw [hs]; rfl
  have t4 : (s.toList == [67, 52]) = false := by rw [hs]; rfl
  have t5 : (s.toList == [86, 52]) = false := by rw [hs]; rfl
  have t6 : (s.toList == [68, 52]) = false := by rw [hs]; rfl
  have t7 : (s.toList == [65, 52]) = false := by rw [hs]; rfl
  have t8 : (s.toList == [83, 52]) = true := by rw [hs]; rfl
  clear hs
  go_enter Tryz.func158, Tryz.ntmps158
  go_wp2_with (fail)
  go_ret
  exact ⟨_, _, rfl, by simpa [ints] using ii_two w [1, 2, 3, 0] [1, 0, 2, 3] (by simp [maxLen]) (by simp [maxLen]), three_alloc w _ _ _⟩
theorem s_gens_9 (s : ByteArray) (hs : s.toList = [67, 53]) (w : World) : Calls Tryz.prog 158 #[.string s] w (LG [[1, 2, 3, 4, 0]] w) := by
  have t0 : (s.toList == [67, 49]) = false := by rw [hs]; rfl
  have t1 : (s.toList == [67, 50]) = false := by rw [hs]; rfl
  have t2 : (s.toList == [67, 51]) = false := by rw [hs]; rfl
  have t3 : (s.toList == [83, 51]) = false := by rw [hs]; rfl
  have t4 : (s.toList == [67, 52]) = false := by rw [hs]; rfl
  have t5 : (s.toList == [86, 52]) = false := by rw [hs]; rfl
  have t6 : (s.toList == [68, 52]) = false := by rw [hs]; rfl
  have t7 : (s.toList == [65, 52]) = false := by rw [hs]; rfl
  have t8 : (s.toList == [83, 52]) = false := by rw [hs]; rfl
  have t9 : (s.toList == [67, 53]) = true := by rw [hs]; rfl
  clear hs
  go_enter Tryz.func158, Tryz.ntmps158
  go_wp2_with (fail)
  go_ret
  exact ⟨_, _, rfl, by simpa [ints] using ii_one w [1, 2, 3, 4, 0] (by simp [maxLen]), two_alloc w _ _⟩
theorem s_gens_10 (s : ByteArray) (hs : s.toList = [68, 53]) (w : World) : Calls Tryz.prog 158 #[.string s] w (LG [[1, 2, 3, 4, 0], [0, 4, 3, 2, 1]] w) := by
  have t0 : (s.toList == [67, 49]) = false := by rw [hs]; rfl
  have t1 : (s.toList == [67, 50]) = false := by rw [hs]; rfl
  have t2 : (s.toList == [67, 51]) = false := by rw [hs]; rfl
  have t3 : (s.toList == [83, 51]) = false := by rw [hs]; rfl
  have t4 : (s.toList == [67, 52]) = false := by rw [hs]; rfl
  have t5 : (s.toList == [86, 52]) = false := by rw [hs]; rfl
  have t6 : (s.toList == [68, 52]) = false := by rw [hs]; rfl
  have t7 : (s.toList == [65, 52]) = false := by rw [hs]; rfl
  have t8 : (s.toList == [83, 52]) = false := by rw [hs]; rfl
  have t9 : (s.toList == [67, 53]) = false := by rw [hs]; rfl
  have t10 : (s.toList == [68, 53]) = true := by rw [hs]; rfl
  clear hs
  go_enter Tryz.func158, Tryz.ntmps158
  go_wp2_with (fail)
  go_ret
  exact ⟨_, _, rfl, by simpa [ints] using ii_two w [1, 2, 3, 4, 0] [0, 4, 3, 2, 1] (by simp [maxLen]) (by simp [maxLen]), three_alloc w _ _ _⟩
theorem s_gens_11 (s : ByteArray) (hs : s.toList = [70, 53]) (w : World) : Calls Tryz.prog 158 #[.string s] w (LG [[1, 2, 3, 4, 0], [0, 2, 4, 1, 3]] w) := by
  have t0 : (s.toList == [67, 49]) = false := by rw [hs]; rfl
  have t1 : (s.toList == [67, 50]) = false := by rw [hs]; rfl
  have t2 : (s.toList == [67, 51]) = false := by rw [hs]; rfl
  have t3 : (s.toList == [83, 51]) = false := by rw [hs]; rfl
  have t4 : (s.toList == [67, 52]) = false := by rw [hs]; rfl
  have t5 : (s.toList == [86, 52]) = false := by rw [hs]; rfl
  have t6 : (s.toList == [68, 52]) = false := by rw [hs]; rfl
  have t7 : (s.toList == [65, 52]) = false := by rw [hs]; rfl
  have t8 : (s.toList == [83, 52]) = false := by rw [hs]; rfl
  have t9 : (s.toList == [67, 53]) = false := by rw [hs]; rfl
  have t10 : (s.toList == [68, 53]) = false := by rw [hs]; rfl
  have t11 : (s.toList == [70, 53]) = true := by rw [hs]; rfl
  clear hs
  go_enter Tryz.func158, Tryz.ntmps158
  go_wp2_with (fail)
  go_ret
  exact ⟨_, _, rfl, by simpa [ints] using ii_two w [1, 2, 3, 4, 0] [0, 2, 4, 1, 3] (by simp [maxLen]) (by simp [maxLen]), three_alloc w _ _ _⟩
theorem s_gens_12 (s : ByteArray) (hs : s.toList = [65, 53]) (w : World) : Calls Tryz.prog 158 #[.string s] w (LG [[1, 2, 3, 4, 0], [1, 2, 0, 3, 4]] w) := by
  have t0 : (s.toList == [67, 49]) = false := by rw [hs]; rfl
  have t1 : (s.toList == [67, 50]) = false := by rw [hs]; rfl
  have t2 : (s.toList == [67, 51]) = false := by rw [hs]; rfl
  have t3 : (s.toList == [83, 51]) = false := by rw [hs]; rfl
  have t4 : (s.toList == [67, 52]) = false := by rw [hs]; rfl
  have t5 : (s.toList == [86, 52]) = false := by rw [hs]; rfl
  have t6 : (s.toList == [68, 52]) = false := by rw [hs]; rfl
  have t7 : (s.toList == [65, 52]) = false := by rw [hs]; rfl
  have t8 : (s.toList == [83, 52]) = false := by rw [hs]; rfl
  have t9 : (s.toList == [67, 53]) = false := by rw [hs]; rfl
  have t10 : (s.toList == [68, 53]) = false := by rw [hs]; rfl
  have t11 : (s.toList == [70, 53]) = false := by rw [hs]; rfl
  have t12 : (s.toList == [65, 53]) = true := by rw [hs]; rfl
  clear hs
  go_enter Tryz.func158, Tryz.ntmps158
  go_wp2_with (fail)
  go_ret
  exact ⟨_, _, rfl, by simpa [ints] using ii_two w [1, 2, 3, 4, 0] [1, 2, 0, 3, 4] (by simp [maxLen]) (by simp [maxLen]), three_alloc w _ _ _⟩
theorem s_gens_13 (s : ByteArray) (hs : s.toList = [83, 53]) (w : World) : Calls Tryz.prog 158 #[.string s] w (LG [[1, 2, 3, 4, 0], [1, 0, 2, 3, 4]] w) := by
  have t0 : (s.toList == [67, 49]) = false := by rw [hs]; rfl
  have t1 : (s.toList == [67, 50]) = false := by rw [hs]; rfl
  have t2 : (s.toList == [67, 51]) = false := by rw [hs]; rfl
  have t3 : (s.toList == [83, 51]) = false := by rw [hs]; rfl
  have t4 : (s.toList == [67, 52]) = false := by rw [hs]; rfl
  have t5 : (s.toList == [86, 52]) = false := by rw [hs]; rfl
  have t6 : (s.toList == [68, 52]) = false := by rw [hs]; rfl
  have t7 : (s.toList == [65, 52]) = false := by rw [hs]; rfl
  have t8 : (s.toList == [83, 52]) = false := by rw [hs]; rfl
  have t9 : (s.toList == [67, 53]) = false := by rw [hs]; rfl
  have t10 : (s.toList == [68, 53]) = false := by rw [hs]; rfl
  have t11 : (s.toList == [70, 53]) = false := by rw [hs]; rfl
  have t12 : (s.toList == [65, 53]) = false := by rw [hs]; rfl
  have t13 : (s.toList == [83, 53]) = true := by rw [hs]; rfl
  clear hs
  go_enter Tryz.func158, Tryz.ntmps158
  go_wp2_with (fail)
  go_ret
  exact ⟨_, _, rfl, by simpa [ints] using ii_two w [1, 2, 3, 4, 0] [1, 0, 2, 3, 4] (by simp [maxLen]) (by simp [maxLen]), three_alloc w _ _ _⟩
theorem s_gens (i : Nat) (hi : i < 14) (s : ByteArray) (hs : s.toList = lbN i) (w : World) : Calls Tryz.prog 158 #[.string s] w (LG (lbG i) w) := by
  match i, hi, hs with
  | 0, _, hs => exact s_gens_0 s hs w
  | 1, _, hs => exact s_gens_1 s hs w
  | 2, _, hs => exact s_gens_2 s hs w
  | 3, _, hs => exact s_gens_3 s hs w
  | 4, _, hs => exact s_gens_4 s hs w
  | 5, _, hs => exact s_gens_5 s hs w
  | 6, _, hs => exact s_gens_6 s hs w
  | 7, _, hs => exact s_gens_7 s hs w
  | 8, _, hs => exact s_gens_8 s hs w
  | 9, _, hs => exact s_gens_9 s hs w
  | 10, _, hs => exact s_gens_10 s hs w
  | 11, _, hs => exact s_gens_11 s hs w
  | 12, _, hs => exact s_gens_12 s hs w
  | 13, _, hs => exact s_gens_13 s hs w
theorem s_gens_no (s : ByteArray) (w : World) (h : NoN s) : Calls Tryz.prog 158 #[.string s] w (Q (.slice none 0 0) w) := by
  have h0 : (s.toList == [67, 49]) = false := beq_eq_false_iff_ne.2 (h 0 (by omega))
  have h1 : (s.toList == [67, 50]) = false := beq_eq_false_iff_ne.2 (h 1 (by omega))
  have h2 : (s.toList == [67, 51]) = false := beq_eq_false_iff_ne.2 (h 2 (by omega))
  have h3 : (s.toList == [83, 51]) = false := beq_eq_false_iff_ne.2 (h 3 (by omega))
  have h4 : (s.toList == [67, 52]) = false := beq_eq_false_iff_ne.2 (h 4 (by omega))
  have h5 : (s.toList == [86, 52]) = false := beq_eq_false_iff_ne.2 (h 5 (by omega))
  have h6 : (s.toList == [68, 52]) = false := beq_eq_false_iff_ne.2 (h 6 (by omega))
  have h7 : (s.toList == [65, 52]) = false := beq_eq_false_iff_ne.2 (h 7 (by omega))
  have h8 : (s.toList == [83, 52]) = false := beq_eq_false_iff_ne.2 (h 8 (by omega))
  have h9 : (s.toList == [67, 53]) = false := beq_eq_false_iff_ne.2 (h 9 (by omega))
  have h10 : (s.toList == [68, 53]) = false := beq_eq_false_iff_ne.2 (h 10 (by omega))
  have h11 : (s.toList == [70, 53]) = false := beq_eq_false_iff_ne.2 (h 11 (by omega))
  have h12 : (s.toList == [65, 53]) = false := beq_eq_false_iff_ne.2 (h 12 (by omega))
  have h13 : (s.toList == [83, 53]) = false := beq_eq_false_iff_ne.2 (h 13 (by omega))
  clear h
  go_enter Tryz.func158, Tryz.ntmps158
  go_wp2_with (fail)
  go_ret
  exact ⟨rfl, 0, rfl⟩
theorem s_l24Points (i : Nat) (hi : i < 14) (s : ByteArray) (hs : s.toList = lbN i) (w : World) : Calls Tryz.prog 97 #[.string s] w (M (.int .i64 (lbP i : Nat)) w) := by
  obtain ⟨p1, p2, g1, g2, hg⟩ := lb_in i hi
  have hc := fun W => s_gens i hi s hs W
  have hg0 : InR (lbP i) (gl (lbG i) 0) := hg _ (gl_mem g1)
  generalize lbP i = p at *
  generalize lbG i = gs at *
  have HL := Lib.hid hg0.1
  clear hs hg hg0
  generalize hG : gs.length = G at *
  have HG := Lib.hid hG
  clear hG
  go_enter Tryz.func97, Tryz.ntmps97
  go_wp2_with (go_at_call 158; refine (hc _).mono ?_; rintro e w1 ⟨A, c, rfl, hii, hb⟩; obtain ⟨b, off, rfl, hlt, hcell⟩ := hii.at (k := 0) (by rw [HG.out]; exact g1); obtain ⟨A', c', e0, _, _, _⟩ := hcell 0 (by rw [HG.out]; exact g1); rw [Nat.add_zero, HL.out] at e0; rw [HG.out])
  go_ret
  exact ⟨rfl, hb⟩
theorem s_l24Points_no (s : ByteArray) (h : NoN s) (w : World) : Calls Tryz.prog 97 #[.string s] w (Q (.int .i64 0) w) := by
  have hc := fun W => s_gens_no s W h
  clear h
  go_enter Tryz.func97, Tryz.ntmps97
  go_wp2_with (go_at_call 158; refine (hc _).mono ?_; rintro e w1 ⟨rfl, nq, rfl⟩)
  go_ret
  exact ⟨rfl, nq, rfl⟩
set_option maxHeartbeats 1000000 in
theorem s_l24Group (i : Nat) (hi : i < 14) (s : ByteArray) (hs : s.toList = lbN i) (w : World) : Calls Tryz.prog 98 #[.string s] w (GR w.heap.size (lbP i : Nat) (RK (lbP i) (lbG i)) w) := by
  obtain ⟨p1, p2, g1, g2, hg⟩ := lb_in i hi
  have hc := fun W => s_gens i hi s hs W
  have hp := fun W => s_l24Points i hi s hs W
  have hgen := fun W A c (hii : II W W.heap.size A (lbG i)) => s_generate (lbP i) A (lbG i).length c (lbG i) W p1 (by omega) rfl (by omega) hii hg
  clear hg
  generalize hR : RK (lbP i) (lbG i) = R at *
  generalize lbP i = p at *
  generalize lbG i = gs at *
  clear hs hR
  generalize hG : gs.length = G at *
  have HG := Lib.hid hG
  clear hG
  generalize hL : R.length = L at *
  have HL := Lib.hid hL
  clear hL
  have B0 := BK.new w 26 #[.int .i64 0, .slice none 0 0]
  have hb0 := (Below.refl w.heap.size w).alloc (Nat.le_refl _) (.cells #[.int .i64 0, .slice none 0 0] 26)
  go_enter Tryz.func98, Tryz.ntmps98
  go_wp2_with (first
    | (go_at_call 97; refine (hp _).mono ?_; rintro e w1 ⟨rfl, hb1⟩)
    | (go_at_call 158; refine (hc _).mono ?_; rintro e w2 ⟨A, c, rfl, hii, hb2⟩; rw [HG.out])
    | (go_at_call 159; refine (hgen _ _ _ hii).mono ?_; rintro e w5 ⟨v3, rfl, ho5, hb5⟩; obtain ⟨Ar, cr, rfl, _⟩ := own_slice' ho5; rw [HL.out]; have z1 := hb1.size; have z2 := hb2.size; have z5 := hb5.size; simp only [World.size_alloc] at z1; have hbx5 := ((B0.below hb1 (by simp)).below hb2 (by omega)).below hb5 (by omega); obtain ⟨f2, f3, fz2, fz3⟩ := hbx5.two))
  have hbw := bel_call (bel_call (bel_call hb0 hb1) hb2) hb5
  rw [HL.out] at ho5
  have h5 := (hbx5.set 0 (.int .i64 (p : Int))).set 1 (.slice Ar L cr)
  have hb9 := (hbw.setCell (p := ⟨w.heap.size, 0, none⟩) (by simp) (.int .i64 (p : Int))).setCell (p := ⟨w.heap.size, 1, none⟩) (by simp) (.slice Ar L cr)
  have ho9 := ownsRow_setCell_below (ownsRow_setCell_below ho5 (a := ⟨w.heap.size, 0, none⟩) (by simp; omega) (.int .i64 (p : Int))) (a := ⟨w.heap.size, 1, none⟩) (by simp; omega) (.slice Ar L cr)
  generalize ((w5.setCell ⟨w.heap.size, 0, none⟩ (.int .i64 (p : Int))).setCell ⟨w.heap.size, 1, none⟩ (.slice Ar L cr)) = w9 at *
  obtain ⟨d0, d1, _, _⟩ := BK.two (x := .int .i64 (p : Int)) (y := .slice Ar L cr) (by simpa using h5)
  (try simp only [Exit.inBlock, Exit.then])
  refine bodyPost_ret (v := .agg #[.int .i64 (p : Int), .slice Ar L cr]) (by simp [results, Tryz.results98, go_sem, d0, d1]; try rfl) rfl ?_
  exact ⟨_, rfl, by rw [HL.out]; exact own_mono ho9 (by omega), hb9⟩
end Go.Proofs.YtglijcdnnaekkaaGreat

/- Contracts: the groups of the library by their names. -/
import Derived.Test.YtjfinniebijgbaaDoorA78
namespace Go.Proofs.YtjfinniebijgbaaDoor
set_option linter.unusedVariables false
set_option linter.unusedSimpArgs false
open Go.RowKit

/-- The library: names, points, generators. -/
def LB : List (List UInt8 × Nat × List (List Int)) := [
  ([67, 49], 1, [[0]]),
  ([67, 50], 2, [[1, 0]]),
  ([67, 51], 3, [[1, 2, 0]]),
  ([83, 51], 3, [[1, 2, 0], [1, 0, 2]]),
  ([67, 52], 4, [[1, 2, 3, 0]]),
  ([86, 52], 4, [[1, 0, 3, 2], [2, 3, 0, 1]]),
  ([68, 52], 4, [[1, 2, 3, 0], [2, 1, 0, 3]]),
  ([65, 52], 4, [[1, 2, 0, 3], [1, 0, 3, 2]]),
  ([83, 52], 4, [[1, 2, 3, 0], [1, 0, 2, 3]]),
  ([67, 53], 5, [[1, 2, 3, 4, 0]]),
  ([68, 53], 5, [[1, 2, 3, 4, 0], [0, 4, 3, 2, 1]]),
  ([70, 53], 5, [[1, 2, 3, 4, 0], [0, 2, 4, 1, 3]]),
  ([65, 53], 5, [[1, 2, 3, 4, 0], [1, 2, 0, 3, 4]]),
  ([83, 53], 5, [[1, 2, 3, 4, 0], [1, 0, 2, 3, 4]])]
def lbN (i : Nat) : List UInt8 := (LB.getD i ([], 0, [])).1
def lbP (i : Nat) : Nat := (LB.getD i ([], 0, [])).2.1
def lbG (i : Nat) : List (List Int) := (LB.getD i ([], 0, [])).2.2
/-- A name that is none of the library's. -/
def NoN (s : ByteArray) : Prop := ∀ i, i < 14 → s.toList ≠ lbN i
theorem lb_in : ∀ i, i < 14 → 1 ≤ lbP i ∧ lbP i ≤ 5 ∧ 0 < (lbG i).length ∧ (lbG i).length ≤ 2 ∧ ∀ g ∈ lbG i, InR (lbP i) g := by
  have h : ∀ i : Fin 14, 1 ≤ lbP i ∧ lbP i ≤ 5 ∧ 0 < (lbG i).length ∧ (lbG i).length ≤ 2 ∧ ∀ g ∈ lbG i, g.length = lbP i ∧ ∀ k : Fin 5, k < lbP i → 0 ≤ gt g k ∧ gt g k < (lbP i : Int) := by decide +kernel
  intro i hi
  obtain ⟨h1, h2, h3, h4, h5⟩ := h ⟨i, hi⟩
  exact ⟨h1, h2, h3, h4, fun g hg => ⟨(h5 g hg).1, fun k hk => (h5 g hg).2 ⟨k, by simp at h2 ⊢; omega⟩ hk⟩⟩
def LG (gens : List (List Int)) (w : World) (e : Ending) (w' : World) : Prop := ∃ A c, e = .returned (.slice A gens.length c) ∧ II w' w'.heap.size A gens ∧ Below w.heap.size w w'
theorem ii_one (w : World) (r : List Int) (hm : r.length ≤ maxLen) : II ((w.alloc (.cells (ints r).toArray 2)).alloc (.cells #[.slice (some ⟨w.heap.size, 0, none⟩) r.length r.length] 22)) (w.heap.size + 1 + 1) (some ⟨w.heap.size + 1, 0, none⟩) [r] := fun _ => by
  have B1 := (BK.new w 2 (ints r).toArray).alloc (.cells #[.slice (some ⟨w.heap.size, 0, none⟩) r.length r.length] 22)
  have B2 := BK.new (w.alloc (.cells (ints r).toArray 2)) 22 #[.slice (some ⟨w.heap.size, 0, none⟩) r.length r.length]
  rw [World.size_alloc] at B2
  refine ⟨_, _, rfl, by omega, fun k hk => ?_⟩
  simp at hk
  subst hk
  have e : gl [r] 0 = r := rfl
  rw [e]
  refine ⟨_, _, (B2.cell 0).trans rfl, Nat.le_refl _, hm, fun _ => ⟨_, _, rfl, by omega, fun j hj => ?_⟩⟩
  rw [Nat.zero_add, B1.cell j]
  simpa using ints_at hj
theorem ii_two (w : World) (r q : List Int) (hm : r.length ≤ maxLen) (hm' : q.length ≤ maxLen) : II (((w.alloc (.cells (ints r).toArray 2)).alloc (.cells (ints q).toArray 2)).alloc (.cells #[.slice (some ⟨w.heap.size, 0, none⟩) r.length r.length, .slice (some ⟨w.heap.size + 1, 0, none⟩) q.length q.length] 22)) (w.heap.size + 1 + 1 + 1) (some ⟨w.heap.size + 1 + 1, 0, none⟩) [r, q] := fun _ => by
  have B1 := ((BK.new w 2 (ints r).toArray).alloc (.cells (ints q).toArray 2)).alloc (.cells #[.slice (some ⟨w.heap.size, 0, none⟩) r.length r.length, .slice (some ⟨w.heap.size + 1, 0, none⟩) q.length q.length] 22)
  have B2 := (BK.new (w.alloc (.cells (ints r).toArray 2)) 2 (ints q).toArray).alloc (.cells #[.slice (some ⟨w.heap.size, 0, none⟩) r.length r.length, .slice (some ⟨w.heap.size + 1, 0, none⟩) q.length q.length] 22)
  have B3 := BK.new ((w.alloc (.cells (ints r).toArray 2)).alloc (.cells (ints q).toArray 2)) 22 #[.slice (some ⟨w.heap.size, 0, none⟩) r.length r.length, .slice (some ⟨w.heap.size + 1, 0, none⟩) q.length q.length]
  rw [World.size_alloc] at B2
  rw [World.size_alloc, World.size_alloc] at B3
  refine ⟨_, _, rfl, by omega, fun k hk => ?_⟩
  simp at hk
  rcases Nat.lt_or_ge k 1 with h | h
  · obtain rfl : k = 0 := by omega
    have e : gl [r, q] 0 = r := rfl
    rw [e]
    refine ⟨_, _, (B3.cell 0).trans rfl, Nat.le_refl _, hm, fun _ => ⟨_, _, rfl, by omega, fun j hj => ?_⟩⟩
    rw [Nat.zero_add, B1.cell j]
    simpa using ints_at hj
  · obtain rfl : k = 1 := by omega
    have e : gl [r, q] 1 = q := rfl
    rw [e]
    refine ⟨_, _, (B3.cell 1).trans rfl, Nat.le_refl _, hm', fun _ => ⟨_, _, rfl, by omega, fun j hj => ?_⟩⟩
    rw [Nat.zero_add, B2.cell j]
    simpa using ints_at hj
theorem three_alloc (w : World) (a b c : Obj) : Below w.heap.size w (((w.alloc a).alloc b).alloc c) := (two_alloc w a b).alloc (by simp; omega) c
end Go.Proofs.YtjfinniebijgbaaDoor

/- Contracts: impl's library. -/
import Derived.Test.YtjfinniebijgbaaDoorA79
namespace Go.Proofs.YtjfinniebijgbaaDoor
set_option linter.unusedVariables false
set_option linter.unusedSimpArgs false
open Go.RowKit

def allocs (w : World) (os : List Obj) : World := os.foldl World.alloc w
theorem allocs_spec : ∀ (os : List Obj) (w : World), (allocs w os).heap.size = w.heap.size + os.length ∧ (∀ j o, os[j]? = some o → (allocs w os).heap[w.heap.size + j]? = some o) ∧ Below w.heap.size w (allocs w os)
  | [], w => ⟨rfl, fun j o h => by simp at h, Below.refl _ _⟩
  | a :: os, w => by
    obtain ⟨h1, h2, h3⟩ := allocs_spec os (w.alloc a)
    have e : allocs w (a :: os) = allocs (w.alloc a) os := rfl
    rw [e]
    rw [World.size_alloc] at h1 h2 h3
    refine ⟨by rw [h1, List.length_cons]; omega, fun j o h => ?_, ((Below.refl w.heap.size w).alloc (Nat.le_refl _) a).trans (h3.mono (by omega))⟩
    cases j with
    | zero =>
      simp at h
      subst h
      rw [Nat.add_zero, h3.block w.heap.size (by omega)]
      exact heap_alloc_new w a
    | succ j =>
      have := h2 j o (by simpa using h)
      rw [← this]; congr 1; omega
theorem ii_bk1 {W : World} {B b1 b2 n : Nat} {r : List Int} (h1 : BK W b1 2 (ints r).toArray) (h2 : BK W b2 22 #[.slice (some ⟨b1, 0, none⟩) n n]) (hn : r.length = n) (l1 : b1 < B) (l2 : b2 < B) (hm : n ≤ maxLen) : II W B (some ⟨b2, 0, none⟩) [r] := fun _ => by
  subst hn
  refine ⟨_, _, rfl, l2, fun k hk => ?_⟩
  simp at hk
  subst hk
  have e : gl [r] 0 = r := rfl
  rw [e]
  refine ⟨_, _, (h2.cell 0).trans rfl, Nat.le_refl _, hm, fun _ => ⟨_, _, rfl, l1, fun j hj => ?_⟩⟩
  rw [Nat.zero_add, h1.cell j]
  simpa using ints_at hj
theorem ii_bk2 {W : World} {B b1 b3 b2 n : Nat} {r q : List Int} (h1 : BK W b1 2 (ints r).toArray) (h3 : BK W b3 2 (ints q).toArray) (h2 : BK W b2 22 #[.slice (some ⟨b1, 0, none⟩) n n, .slice (some ⟨b3, 0, none⟩) n n]) (hn : r.length = n) (hq : q.length = n) (l1 : b1 < B) (l3 : b3 < B) (l2 : b2 < B) (hm : n ≤ maxLen) : II W B (some ⟨b2, 0, none⟩) [r, q] := fun _ => by
  refine ⟨_, _, rfl, l2, fun k hk => ?_⟩
  simp at hk
  rcases Nat.lt_or_ge k 1 with h | h
  · obtain rfl : k = 0 := by omega
    have e : gl [r, q] 0 = r := rfl
    rw [e, hn]
    refine ⟨_, _, (h2.cell 0).trans rfl, Nat.le_refl _, hm, fun _ => ⟨_, _, rfl, l1, fun j hj => ?_⟩⟩
    rw [Nat.zero_add, h1.cell j]
    simpa using ints_at hj
  · obtain rfl : k = 1 := by omega
    have e : gl [r, q] 1 = q := rfl
    rw [e, hq]
    refine ⟨_, _, (h2.cell 1).trans rfl, Nat.le_refl _, hm, fun _ => ⟨_, _, rfl, l3, fun j hj => ?_⟩⟩
    rw [Nat.zero_add, h3.cell j]
    simpa using ints_at hj
/-- Block b holds the library. -/
def LIBR (W : World) (B b : Nat) : Prop := b < B ∧ ∀ i, i < 14 → ∃ (nb : ByteArray) (A : Option Addr) (c : Nat), nb.toList = lbN i ∧ W.cell? ⟨b, i * 3, none⟩ = some (.string nb) ∧ W.cell? ⟨b, i * 3 + 1, none⟩ = some (.int .i64 (lbP i : Nat)) ∧ W.cell? ⟨b, i * 3 + 2, none⟩ = some (.slice A (lbG i).length c) ∧ II W B A (lbG i)
theorem LIBR.below {W W' : World} {B b : Nat} (h : LIBR W B b) (hb : Below B W W') : LIBR W' B b := by
  refine ⟨h.1, fun i hi => ?_⟩
  obtain ⟨nb, A, c, h1, h2, h3, h4, h5⟩ := h.2 i hi
  exact ⟨nb, A, c, h1, by rw [hb.cell (by exact h.1)]; exact h2, by rw [hb.cell (by exact h.1)]; exact h3, by rw [hb.cell (by exact h.1)]; exact h4, h5.below hb⟩
theorem LIBR.more {W : World} {B B' b : Nat} (h : LIBR W B b) (hB : B ≤ B') : LIBR W B' b := by
  refine ⟨Nat.lt_of_lt_of_le h.1 hB, fun i hi => ?_⟩
  obtain ⟨nb, A, c, h1, h2, h3, h4, h5⟩ := h.2 i hi
  exact ⟨nb, A, c, h1, h2, h3, h4, h5.more hB⟩
end Go.Proofs.YtjfinniebijgbaaDoor

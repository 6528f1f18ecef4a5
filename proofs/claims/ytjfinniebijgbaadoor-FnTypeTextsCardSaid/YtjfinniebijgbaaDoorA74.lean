/- Contracts: the group of some permutations (sorted, compacted ranks), and the listed numbers of flags. -/
import Derived.Test.YtjfinniebijgbaaDoorA73
import Derived.Test.YtjfinniebijgbaaDoorShelf
import Derived.Test.YtjfinniebijgbaaDoorA30
import Derived.Deep.RegionLaw
import Derived.Deep.AppendLies
import Derived.Lib.OwnBridge
import Derived.Sort.OwnSortedInts
namespace Go.Proofs.YtjfinniebijgbaaDoor
set_option linter.unusedVariables false
set_option linter.unusedSimpArgs false
open Go.RowKit

/-- A slice of slices at address A reads as ll, in blocks below B. -/
def II (w : World) (B : Nat) (A : Option Addr) (ll : List (List Int)) : Prop :=
  0 < ll.length → ∃ b off, A = some ⟨b, off, none⟩ ∧ b < B ∧ ∀ k, k < ll.length → ∃ A' c', w.cell? ⟨b, off + k, none⟩ = some (.slice A' (gl ll k).length c') ∧ (gl ll k).length ≤ c' ∧ c' ≤ maxLen ∧ IS w B A' (gl ll k)
theorem II.below {w w' : World} {B : Nat} {A : Option Addr} {ll : List (List Int)} (h : II w B A ll) (hb : Below B w w') : II w' B A ll := fun h0 => by
  obtain ⟨b, off, rfl, hlt, hc⟩ := h h0
  refine ⟨b, off, rfl, hlt, fun k hk => ?_⟩
  obtain ⟨A', c', h1, h2, h3, h4⟩ := hc k hk
  exact ⟨A', c', by rw [hb.cell hlt]; exact h1, h2, h3, h4.below hb⟩
theorem II.more {w : World} {B B' : Nat} {A : Option Addr} {ll : List (List Int)} (h : II w B A ll) (hB : B ≤ B') : II w B' A ll := fun h0 => by
  obtain ⟨b, off, rfl, hlt, hc⟩ := h h0
  refine ⟨b, off, rfl, by omega, fun k hk => ?_⟩
  obtain ⟨A', c', h1, h2, h3, h4⟩ := hc k hk
  exact ⟨A', c', h1, h2, h3, h4.more hB⟩
theorem II.at {w : World} {B : Nat} {A : Option Addr} {ll : List (List Int)} (h : II w B A ll) {k : Nat} (hk : k < ll.length) :
    ∃ b off, A = some ⟨b, off, none⟩ ∧ b < B ∧ ∀ k, k < ll.length → ∃ A' c', w.cell? ⟨b, off + k, none⟩ = some (.slice A' (gl ll k).length c') ∧ (gl ll k).length ≤ c' ∧ c' ≤ maxLen ∧ IS w B A' (gl ll k) := h (by omega)
theorem own_cap {w : World} {base n c : Nat} {e : TypeId} {A : Option Addr} {xs : List Value} (h : w.ownsRow base e 1 (.slice A n c) n xs) : n ≤ c ∧ c ≤ maxLen := by
  rcases h.2 with ⟨h0, _⟩ | ⟨g, cap, cur, hv, _, _, h1, h2, _⟩
  · cases h0; simp [maxLen]
  · cases hv; exact ⟨h1, h2⟩
theorem OwnII.ii {w : World} {base n c : Nat} {A : Option Addr} {ll : List (List Int)} {vs : List Value} (h : w.ownsRow base 22 1 (.slice A n c) n vs) (hr : RowsO w base vs ll) : II w w.heap.size A ll := fun h0 => by
  have hvl : vs.length = n := by have := h.1; omega
  obtain ⟨g, rfl, _, hlt, hc⟩ := own_src h (by rw [← hvl, hr.1]; exact h0)
  refine ⟨g, 0, rfl, hlt, fun k hk => ?_⟩
  have hk' : k < vs.length := by rw [hr.1]; exact hk
  have hrow := hr.2.1 k hk'
  obtain ⟨A', c', hv, _⟩ := own_slice' hrow
  have hcap := hrow
  unfold OwnI at hcap
  rw [hv] at hcap
  obtain ⟨h1, h2⟩ := own_cap hcap
  refine ⟨A', c', by rw [Nat.zero_add, hc k _ (gv_at hk'), hv], h1, h2, own_isn hcap rfl⟩
def rkC (ms : List (List Int)) : List Int := Lib.compact ((rksL ms).mergeSort fun x y => decide (x ≤ y))
theorem rksL_take {ms : List (List Int)} {k : Nat} (h : k < ms.length) : rksL (ms.take (k + 1)) = rksL (ms.take k) ++ [((rk (gl ms k) : Nat) : Int)] := by
  simp only [rksL]
  rw [List.take_succ_eq_append_getElem h, List.map_append]
  simp [gl, List.getElem?_eq_getElem h]
def GR (base : Nat) (pts : Int) (l : List Int) (w : World) (e : Ending) (w' : World) : Prop := ∃ v, e = .returned (.agg #[.int .i64 pts, v]) ∧ w'.ownsRow base 2 1 v l.length (ints l) ∧ Below w.heap.size w w'
end Go.Proofs.YtjfinniebijgbaaDoor

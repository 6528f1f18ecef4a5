/- Slices of slices: cut, cleared, thinned out. -/
import Derived.Test.YtglijcdnnaekkaaGreatA16
import Derived.Maps.AppendAt
namespace Go.Proofs.YtglijcdnnaekkaaGreat
set_option linter.unusedVariables false
set_option linter.unusedSimpArgs false
open Go.RowKit

theorem own_take {w : World} {base g n m cap : Nat} {e : TypeId} {xs : List Value} (h : w.ownsRow base e 1 (.slice (some ⟨g, 0, none⟩) n cap) n xs) (hm : m ≤ n) : w.ownsRow base e 1 (.slice (some ⟨g, 0, none⟩) m cap) m (xs.take m) := by
  obtain ⟨h1, h2⟩ := h
  rcases h2 with ⟨h0, _⟩ | ⟨g', cap', cur, hv, hb, hg, h3, h4, h5, h6⟩
  · cases h0
  · cases hv
    refine ⟨by rw [List.length_take]; omega, .inr ⟨g, cap, cur, rfl, hb, hg, by omega, h4, h5, ?_⟩⟩
    rw [← h6, List.take_take]
    congr 1
    omega
theorem own_setCells {base g n cap : Nat} {e : TypeId} : ∀ (zs : List Value) (o : Nat) {w : World} {xs : List Value}, w.ownsRow base e 1 (.slice (some ⟨g, 0, none⟩) n cap) n xs →
    ∃ xs', (w.setCells g o zs).ownsRow base e 1 (.slice (some ⟨g, 0, none⟩) n cap) n xs' ∧ (∀ j, j < o → xs'[j]? = xs[j]?) ∧ w.grownBy (w.setCells g o zs) (some g)
  | [], o, w, xs, h => ⟨xs, h, fun _ _ => rfl, ⟨rfl, rfl, rfl, Nat.le_refl _, fun _ _ _ => rfl⟩⟩
  | z :: zs, o, w, xs, h => by
    obtain ⟨s1, s2⟩ := h.stored o z
    obtain ⟨xs', h1, h2, h3⟩ := own_setCells zs (o + 1) s1
    refine ⟨xs', h1, fun j hj => ?_, s2.trans h3⟩
    rw [h2 j (by omega), List.getElem?_set_ne (by omega)]
/-- The places that a condition leaves, among the first j. -/
def kpL (P : List Int → Bool) (ll : List (List Int)) (j : Nat) : List Nat := (List.range j).filter fun i => P (gl ll i)
theorem kpL_yes {P : List Int → Bool} {ll : List (List Int)} {j : Nat} (h : P (gl ll j) = true) : kpL P ll (j + 1) = kpL P ll j ++ [j] := by simp [kpL, List.range_succ, h]
theorem kpL_no {P : List Int → Bool} {ll : List (List Int)} {j : Nat} (h : P (gl ll j) = false) : kpL P ll (j + 1) = kpL P ll j := by simp [kpL, List.range_succ, h]
theorem kpL_le (P : List Int → Bool) (ll : List (List Int)) (j : Nat) : (kpL P ll j).length ≤ j := by
  have := List.length_filter_le (fun i => P (gl ll i)) (List.range j)
  rwa [List.length_range] at this
theorem kpL_lt {P : List Int → Bool} {ll : List (List Int)} {j t : Nat} (h : t < (kpL P ll j).length) : (kpL P ll j)[t] < j := by
  have := List.getElem_mem h
  unfold kpL at this
  exact List.mem_range.1 (List.mem_filter.1 this).1
theorem kpL_all {P : List Int → Bool} {ll : List (List Int)} {k : Nat} (h : ∀ j, j < k → P (gl ll j) = true) : kpL P ll k = List.range k := List.filter_eq_self.2 fun i hi => h i (List.mem_range.1 hi)
theorem kpL_filter (P : List Int → Bool) (ll : List (List Int)) : (kpL P ll ll.length).map (gl ll) = ll.filter P := by
  have e : (List.range ll.length).map (gl ll) = ll := by
    refine List.ext_getElem (by simp) fun i h1 h2 => ?_
    simp [gl, List.getElem?_eq_getElem h2]
  conv => rhs; rw [← e, List.filter_map]
  rfl
theorem RowsO.sub {w : World} {base : Nat} {vs : List Value} {ll : List (List Int)} (h : RowsO w base vs ll) (P : List Int → Bool) : RowsO w base ((kpL P ll ll.length).map (gv vs)) (ll.filter P) := by
  obtain ⟨h1, h2, h3⟩ := h
  rw [← kpL_filter]
  have hpw : (kpL P ll ll.length).Pairwise (· < ·) := List.pairwise_lt_range.filter _
  have e1 : ∀ i, i < (kpL P ll ll.length).length → gv ((kpL P ll ll.length).map (gv vs)) i = gv vs ((kpL P ll ll.length).getD i 0) := fun i hi => by simp [gv, List.getElem?_eq_getElem hi]
  have e2 : ∀ i, i < (kpL P ll ll.length).length → gl ((kpL P ll ll.length).map (gl ll)) i = gl ll ((kpL P ll ll.length).getD i 0) := fun i hi => by simp [gl, List.getElem?_eq_getElem hi]
  have e3 : ∀ i, i < (kpL P ll ll.length).length → (kpL P ll ll.length).getD i 0 < ll.length := fun i hi => by
    have := kpL_lt hi
    rw [List.getD_eq_getElem?_getD, List.getElem?_eq_getElem hi]; exact this
  refine ⟨by simp, fun i hi => ?_, fun i j hij hj => ?_⟩
  · rw [List.length_map] at hi
    rw [e1 i hi, e2 i hi]
    exact h2 _ (by rw [h1]; exact e3 i hi)
  · rw [List.length_map] at hj
    rw [e1 i (by omega), e1 j hj]
    refine h3 _ _ ?_ (by rw [h1]; exact e3 j hj)
    have := List.pairwise_iff_getElem.1 hpw i j (by omega) hj hij
    rw [List.getD_eq_getElem?_getD, List.getD_eq_getElem?_getD, List.getElem?_eq_getElem hj, List.getElem?_eq_getElem (show i < _ by omega)]
    exact this
end Go.Proofs.YtglijcdnnaekkaaGreat

/- TypesOf: the reference's side. -/
import Derived.Test.YtglijcdnnaekkaaA161
import Derived.Test.YtglijcdnnaekkaaA92
import Derived.Test.YtglijcdnnaekkaaA16
import Derived.Deep.RegionLaw
namespace Go.Proofs.Ytglijcdnnaekkaa
set_option linter.unusedVariables false
set_option linter.unusedSimpArgs false
open Go.RowKit

theorem below_undrew' {B : Nat} {w w' : World} {n : Nat} (h : Below B (w.drewN n) w') : Below B w w' := ⟨h.os, h.tape, h.output, h.size, h.block⟩
/-- The values read as the rows. -/
def RR (w : World) (base : Nat) (vs : List Value) (ll : List (List Int)) : Prop := vs.length = ll.length ∧ ∀ k, k < vs.length → OwnI w base (gv vs k) (gl ll k) ∧ (gl ll k).length ≤ 6
theorem gv_app {a b : List Value} (k : Nat) : gv (a ++ b) k = if k < a.length then gv a k else gv b (k - a.length) := by
  unfold gv
  rw [List.getD_eq_getElem?_getD]
  by_cases h : k < a.length
  · rw [if_pos h, List.getElem?_append_left h, List.getD_eq_getElem?_getD]
  · rw [if_neg h, List.getElem?_append_right (by omega), List.getD_eq_getElem?_getD]
theorem gv_take {a : List Value} {j k : Nat} (h : k < j) : gv (a.take j) k = gv a k := by simp [gv, List.getElem?_take, h]
theorem gv_drop (a : List Value) (j k : Nat) : gv (a.drop j) k = gv a (j + k) := by simp [gv]
theorem RR.app {w : World} {base : Nat} {vs vs' : List Value} {ll ll' : List (List Int)} (h : RR w base vs ll) (h' : RR w base vs' ll') : RR w base (vs ++ vs') (ll ++ ll') := by
  refine ⟨by rw [List.length_append, List.length_append, h.1, h'.1], fun k hk => ?_⟩
  rw [List.length_append] at hk
  rw [gv_app, gl_app, h.1]
  by_cases hlt : k < ll.length
  · rw [if_pos hlt, if_pos hlt]; exact h.2 k (by rw [h.1]; exact hlt)
  · rw [if_neg hlt, if_neg hlt]
    exact h'.2 _ (by have := h.1; omega)
theorem RR.take {w : World} {base : Nat} {vs : List Value} {ll : List (List Int)} (h : RR w base vs ll) (n : Nat) : RR w base (vs.take n) (ll.take n) := by
  refine ⟨by rw [List.length_take, List.length_take, h.1], fun k hk => ?_⟩
  rw [List.length_take] at hk
  rw [gv_take (by omega), gl_take (by omega)]
  exact h.2 k (by omega)
theorem RR.drop {w : World} {base : Nat} {vs : List Value} {ll : List (List Int)} (h : RR w base vs ll) (n : Nat) : RR w base (vs.drop n) (ll.drop n) := by
  refine ⟨by rw [List.length_drop, List.length_drop, h.1], fun k hk => ?_⟩
  rw [List.length_drop] at hk
  rw [gv_drop, gl_drop]
  exact h.2 _ (by omega)
theorem RR.one {w : World} {base : Nat} {v : Value} {l : List Int} (h : OwnI w base v l) (hl : l.length ≤ 6) : RR w base [v] [l] := by
  refine ⟨rfl, fun k hk => ?_⟩
  obtain rfl : k = 0 := by simpa using hk
  exact ⟨h, hl⟩
theorem RR.srt {w : World} {base i : Nat} {vs : List Value} {ll : List (List Int)} {v : Value} (h : RR w base vs (srt ll i)) (hv : OwnI w base v (gl ll i)) (hl : (gl ll i).length ≤ 6) : RR w base (vs.take (atF (gl ll i) (srt ll i) i) ++ [v] ++ vs.drop (atF (gl ll i) (srt ll i) i)) (srt ll (i + 1)) :=
  ((h.take _).app (RR.one hv hl)).app (h.drop _)
def bfQ (ll : List (List Int)) (i j : Nat) : Bool := bef (gl ll i) (gl (srt ll i) j)
theorem ob_nilT (w : World) (e : TypeId) (base : Nat) (h : base ≤ w.heap.size) : (w.alloc (.cells #[] e)).ownsRow base e 1 (.slice (some ⟨w.heap.size, 0, none⟩) 0 0) 0 [] :=
  World.ownsRow_lit (base := base) (e := e) (size := 1) w #[] 0 h (by simp [maxLen]) rfl
theorem ob_nil1 (w : World) (x : Value) : ((w.drew.alloc (.cells #[x] 22)).alloc (.cells #[] 22)).ownsRow w.heap.size 22 1 (.slice (some ⟨w.heap.size + 1, 0, none⟩) 0 0) 0 [] := by
  have h := ob_nilT (w.drew.alloc (.cells #[x] 22)) 22 w.heap.size (by simp; try omega)
  have e : (w.drew.alloc (.cells #[x] 22)).heap.size = w.heap.size + 1 := by simp
  rw [e] at h
  exact h
theorem xkeep2 {w w7 : World} {x : Value} (hg : ((w.drew.alloc (.cells #[] 22)).alloc (.cells #[x] 22)).grownBy w7 (Value.slice (some ⟨w.heap.size, 0, none⟩) 0 0).ownBlock) : ∀ j u, [x][j]? = some u → w7.cell? ((⟨w.heap.size + 1, 0, none⟩ : Addr).add j) = some u := fun j u hj => by
  have h := (BK.new (w.drew.alloc (.cells #[] 22)) 22 #[x]).kept hg (by simp [Value.ownBlock])
  have e : (w.drew.alloc (.cells #[] 22)).heap.size = w.heap.size + 1 := by simp
  rw [e] at h
  rw [Go.WideShapes.add_plain, Nat.zero_add, h.cell j]
  simpa using hj
theorem xkeep1 {w w7 : World} {x : Value} (hg : ((w.drew.alloc (.cells #[x] 22)).alloc (.cells #[] 22)).grownBy w7 (Value.slice (some ⟨w.heap.size + 1, 0, none⟩) 0 0).ownBlock) : ∀ j u, [x][j]? = some u → w7.cell? ((⟨w.heap.size, 0, none⟩ : Addr).add j) = some u := fun j u hj => by
  have h := ((BK.new w.drew 22 #[x]).alloc (.cells #[] 22)).kept hg (by simp [Value.ownBlock])
  have e : w.drew.heap.size = w.heap.size := rfl
  rw [e] at h
  rw [Go.WideShapes.add_plain, Nat.zero_add, h.cell j]
  simpa using hj
end Go.Proofs.Ytglijcdnnaekkaa

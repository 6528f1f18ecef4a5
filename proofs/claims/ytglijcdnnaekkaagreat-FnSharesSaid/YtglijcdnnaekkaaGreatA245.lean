/- Several parts of the proof in one text; each part says what it shows. Nothing is assumed. -/
import Derived.Test.YtglijcdnnaekkaaGreatA241
import Derived.Test.YtglijcdnnaekkaaGreatA249
import Derived.Test.YtglijcdnnaekkaaGreatA161
import Derived.Test.YtglijcdnnaekkaaGreatA209
import Derived.Lib.SliceRun
import Derived.Maps.AppendAt
import Derived.Deep.RegionHeld3
/- Stabilizers, the program's side: members that a condition leaves. -/
namespace Go.Proofs.YtglijcdnnaekkaaGreat
set_option linter.unusedVariables false
set_option linter.unusedSimpArgs false
open Go.RowKit

end Go.Proofs.YtglijcdnnaekkaaGreat
/- Stabilizers, the program's side: slices.DeleteFunc over permutations. -/
namespace Go.Proofs.YtglijcdnnaekkaaGreat
set_option linter.unusedVariables false
set_option linter.unusedSimpArgs false
open Go.RowKit

/-- The first place at which a condition fails. -/
def IXF (P : List Int → Bool) (ll : List (List Int)) (n : Nat) (w : World) (e : Ending) (w' : World) : Prop := (∃ q, w' = w.drewN q) ∧ ((e = .returned (.int .i64 (-1)) ∧ ∀ j, j < n → P (gl ll j) = true) ∨ (∃ k : Nat, e = .returned (.int .i64 (k : Int)) ∧ k < n ∧ P (gl ll k) = false ∧ ∀ j, j < k → P (gl ll j) = true))
/-- What is left of a slice of permutations. -/
def DLF (P : List Int → Bool) (ll : List (List Int)) (base g c : Nat) (w : World) (e : Ending) (w' : World) : Prop := ∃ m vs', e = .returned (.slice (some ⟨g, 0, none⟩) m c) ∧ m = (ll.filter P).length ∧ w'.ownsRow base 24 1 (.slice (some ⟨g, 0, none⟩) m c) m vs' ∧ RowsO w' base vs' (ll.filter P) ∧ w.grownBy w' (some g)
theorem kpL_less {P : List Int → Bool} {ll : List (List Int)} {n k : Nat} (hk : k < n) (h : P (gl ll k) = false) : (kpL P ll n).length < n := by
  have h1 := (List.length_filter_lt_length_iff_exists (p := fun i => P (gl ll i)) (l := List.range n)).2 ⟨k, List.mem_range.2 hk, by rw [h]; decide⟩
  rwa [List.length_range] at h1
theorem grown_drew {w : World} {g : Option Nat} (q : Nat) : w.grownBy (w.drewN q) g := ⟨rfl, rfl, rfl, Nat.le_refl _, fun _ _ _ => rfl⟩
theorem grown_to {w w' : World} {g : Option Nat} (h : w.grownBy w' g) (q : Nat) : w.grownBy (w'.drewN q) g := ⟨h.os, h.tape, h.output, h.size, h.block⟩
end Go.Proofs.YtglijcdnnaekkaaGreat
/- Stabilizers and orbits of points: both sides. -/
namespace Go.Proofs.YtglijcdnnaekkaaGreat
set_option linter.unusedVariables false
set_option linter.unusedSimpArgs false
open Go.RowKit

theorem cell_two_far {w : World} {r s i : Nat} {v : Value} (hrs : r ≠ s) (h : w.cell? ⟨s, i, none⟩ = some v) (x y : Value) : ((w.setCell ⟨r, 0, none⟩ x).setCell ⟨r, 1, none⟩ y).cell? ⟨s, i, none⟩ = some v := by
  have ne0 : ∀ j, (⟨r, j, none⟩ : Addr) ≠ ⟨s, i, none⟩ := fun j e => by injection e with e; exact hrs e
  rw [World.cell?_setCell_other (h := ne0 1), World.cell?_setCell_other (h := ne0 0), h]
theorem st_pos {n : Nat} {l : List Int} (h : grpB n l = true) {p : Nat} (hp : p < n) : 0 < (stL (memL n l) p p).length := by
  have h1 := orb_st (pgn_of h) hp
  rw [memL_len] at h1
  obtain ⟨n', _, _, _, h3, _⟩ := grpB_t h
  exact Nat.pos_of_ne_zero fun e => by rw [e, Nat.mul_zero] at h1; omega
theorem own_ret {w : World} {base n c : Nat} {A : Option Addr} {xs : List Value} {e : TypeId} (h : w.ownsRow base e 1 (.slice A n c) n xs) (h0 : 0 < n) : ∃ g, A = some ⟨g, 0, none⟩ := by
  rcases h.2 with ⟨_, hz⟩ | ⟨g, cap, cur, hv, _⟩
  · omega
  · cases hv; exact ⟨g, rfl⟩
end Go.Proofs.YtglijcdnnaekkaaGreat
/- Orbits and stabilizers of points, their number of fixed points: both sides. -/
namespace Go.Proofs.YtglijcdnnaekkaaGreat
set_option linter.unusedVariables false
set_option linter.unusedSimpArgs false
open Go.RowKit

theorem one_isn (w : World) (a : Int) : IS (w.alloc (.cells #[.int .i64 a] 2)) (w.alloc (.cells #[.int .i64 a] 2)).heap.size (some ⟨w.heap.size, 0, none⟩) [a] := fun _ => by
  have B := BK.new w 2 #[.int .i64 a]
  refine ⟨w.heap.size, 0, rfl, B.lt, fun k hk => ?_⟩
  obtain rfl : k = 0 := by simpa using hk
  exact B.cell 0
theorem mv_twice (p x : Int) (l : List Int) : mvL p l [x, x] = mvL p l [x] := by
  unfold mvL
  simp
theorem mv_ok {p x : Int} {l : List Int} (h : mvL p l [x] = 0) : ∃ n q : Nat, p = n ∧ x = q ∧ q < n ∧ grpB n l = true := by
  unfold mvL at h
  cases hg : grpB p l
  · rw [hg] at h; simp at h
  · obtain ⟨n, rfl, _⟩ := grpB_t hg
    rw [hg] at h
    cases hi : inB x 0 ((n : Int) - 1)
    · simp [hi] at h
    · have := inB_true hi
      exact ⟨n, x.toNat, rfl, by omega, by omega, hg⟩
def ofA (p : Int) (l : List Int) (x : Int) : List Int := if mvL p l [x] = 0 then orL p.toNat l x.toNat else []
def sbA (p : Int) (l : List Int) (x : Int) : List Int := if mvL p l [x] = 0 then sbL p.toNat l x.toNat else []
def sbP (p : Int) (l : List Int) (x : Int) : Int := if mvL p l [x] = 0 then p else 0
theorem nz_bne {c : Int} (h : ¬ c = 0) : (c != 0) = true := by rw [bne_iff_ne]; exact h
/-- The ranks that a stabilizer has among the first ones. -/
def sbT (n q : Nat) (l : List Int) : List Int := l.filter fun x => gt (wrL n x.toNat) q == (q : Int)
theorem sbT_yes {n q : Nat} {l : List Int} {k : Nat} (h : k < l.length) (hf : (gt (gl (memL n l) k) q == (q : Int)) = true) : sbL n (l.take (k + 1)) q = sbL n (l.take k) q ++ [gt l k] := by
  have e : gl (memL n l) k = wrL n (gt l k).toNat := by simp [gl, memL, gt, List.getElem?_eq_getElem h]
  rw [e] at hf
  rw [List.take_succ_eq_append_getElem h, ← gt_eq h]
  unfold sbL
  rw [List.filter_append]
  simp [hf]
theorem sbT_no {n q : Nat} {l : List Int} {k : Nat} (h : k < l.length) (hf : (gt (gl (memL n l) k) q == (q : Int)) = false) : sbL n (l.take (k + 1)) q = sbL n (l.take k) q := by
  have e : gl (memL n l) k = wrL n (gt l k).toNat := by simp [gl, memL, gt, List.getElem?_eq_getElem h]
  rw [e] at hf
  rw [List.take_succ_eq_append_getElem h, ← gt_eq h]
  unfold sbL
  rw [List.filter_append]
  simp [hf]
end Go.Proofs.YtglijcdnnaekkaaGreat

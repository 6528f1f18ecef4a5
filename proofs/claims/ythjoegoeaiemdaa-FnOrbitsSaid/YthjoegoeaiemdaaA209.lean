/- BlockWith: the reference's side, and the law. -/
import Derived.Test.YthjoegoeaiemdaaA208
import Derived.Test.YthjoegoeaiemdaaA206
import Derived.Test.YthjoegoeaiemdaaA176
namespace Go.Proofs.Ythjoegoeaiemdaa
set_option linter.unusedVariables false
set_option linter.unusedSimpArgs false
open Go.RowKit

theorem mvL_two {n : Nat} {l : List Int} {a b : Int} (hg : grpB n l = true) : mvL n l [a, b] = if (!inB a 0 ((n : Int) - 1) || !inB b 0 ((n : Int) - 1)) = true then 2 else 0 := by
  unfold mvL
  rw [hg]
  simp
theorem mvL_no {p : Int} {l pts : List Int} (hg : grpB p l = false) : mvL p l pts = 1 := by unfold mvL; rw [hg]; rfl
set_option maxRecDepth 20000 in
set_option maxHeartbeats 1000000 in
theorem s_l23Code (p a b : Int) (A : Option Addr) (L c : Nat) (l : List Int) (w : World) (hL : L = l.length) (hl : L ≤ 1048576) (hs : IS w w.heap.size A l) :
    Calls Try.prog 64 #[.agg #[.int .i64 p, .slice A L c], .int .i64 a, .int .i64 b] w (M (.int .i64 (mvL p l [a, b])) w) := by
  have B0 := BK.new w 26 #[.int .i64 p, .slice A L c]
  obtain ⟨c0, c1, _, _⟩ := B0.two
  have hb0 := (Below.refl w.heap.size w).alloc (Nat.le_refl _) (.cells #[.int .i64 p, .slice A L c] 26)
  have hs0 := hs.call hb0
  have hB0 := fun W (h : Below (w.alloc (.cells #[.int .i64 p, .slice A L c] 26)).heap.size (w.alloc (.cells #[.int .i64 p, .slice A L c] 26)) W) => (B0.below h (by simp)).two
  have hg := s_IsGroup p A L c l _ hL hl hs0
  cases hgb : grpB p l
  · rw [hgb] at hg
    rw [mvL_no hgb]
    clear hL hs hs0 hgb B0 hB0
    go_enter Try.func64, Try.ntmps64
    go_wp2_with (go_at_call 70; refine hg.mono ?_; rintro e w2 ⟨rfl, hb2⟩)
    go_ret
    exact ⟨rfl, bel_call hb0 hb2⟩
  · rw [hgb] at hg
    obtain ⟨n, rfl, h1, h2, _⟩ := grpB_t hgb
    rw [mvL_two hgb]
    have hw : IntKind.i64.wrap ((n : Int) - 1) = (n : Int) - 1 := IntWalk.i64_in _ (by omega)
    have hia := fun W => s_l01In a 0 ((n : Int) - 1) W
    have hib := fun W => s_l01In b 0 ((n : Int) - 1) W
    generalize inB a 0 ((n : Int) - 1) = ia at *
    generalize inB b 0 ((n : Int) - 1) = ib at *
    clear hL hs hs0 hgb B0
    cases ia
    · go_enter Try.func64, Try.ntmps64
      go_wp2_with (first
        | (go_at_call 70; refine hg.mono ?_; rintro e w2 ⟨rfl, hb2⟩; obtain ⟨d0, d1, _, _⟩ := hB0 _ hb2)
        | (go_at_call 90; refine (hia _).mono ?_; rintro e w3 ⟨rfl, q3, rfl⟩))
      go_ret
      exact ⟨by simp, below_drewN (bel_call hb0 hb2) _⟩
    · cases ib
      all_goals
        go_enter Try.func64, Try.ntmps64
        go_wp2_with (first
          | (go_at_call 70; refine hg.mono ?_; rintro e w2 ⟨rfl, hb2⟩; obtain ⟨d0, d1, _, _⟩ := hB0 _ hb2)
          | (go_at_call 90; have q9 := q3; refine (hib _).mono ?_; rintro e w4 ⟨rfl, q4, rfl⟩)
          | (go_at_call 90; refine (hia _).mono ?_; rintro e w3 ⟨rfl, q3, rfl⟩))
        go_ret
        refine ⟨by simp, ?_⟩
        repeat (first | exact bel_call hb0 hb2 | refine below_drewN ?_ _)
/-- A slice of int64 of the call's own, its block between two bounds. -/
structure OB (w : World) (lo hi : Nat) (A : Option Addr) (n c : Nat) (l : List Int) : Prop where
  own : w.ownsRow lo 2 1 (.slice A n c) n (ints l)
  lt : ∀ g, (Value.slice A n c).ownBlock = some g → g < hi
section
variable {w w' : World} {lo hi n c : Nat} {A : Option Addr} {l : List Int}
theorem OB.mk' (h : w.ownsRow lo 2 1 (.slice A n c) n (ints l)) : OB w lo w.heap.size A n c l := ⟨h, fun g hg => (h.lt g hg).2⟩
theorem OB.is (h : OB w lo hi A n c l) (hn : n = l.length) : IS w w.heap.size A l := own_isn h.own hn
theorem OB.below (h : OB w lo hi A n c l) (hb : Below w.heap.size w w') : OB w' lo hi A n c l := ⟨own_below h.own hb, h.lt⟩
theorem OB.dr (h : OB w lo hi A n c l) (k : Nat) : OB (w.drewN k) lo hi A n c l := ⟨own_dr h.own k, h.lt⟩
theorem OB.grown {row : Option Nat} (h : OB w lo hi A n c l) (hg : w.grownBy w' row) (hr : ∀ g, row = some g → g < lo ∨ hi ≤ g) : OB w' lo hi A n c l := by
  refine ⟨h.own.kept hg ?_, h.lt⟩
  cases hb : (Value.slice A n c).ownBlock with
  | none => exact .inl rfl
  | some g => exact .inr fun e => by have h1 := h.own.lt g hb; have h2 := h.lt g hb; have := hr g e.symm; omega
end
end Go.Proofs.Ythjoegoeaiemdaa

/- Is a group transitive: both sides. -/
import Derived.Test.YtglijcdnnaekkaaGreatA173
import Derived.Test.YtglijcdnnaekkaaGreatA174
namespace Go.Proofs.YtglijcdnnaekkaaGreat
set_option linter.unusedVariables false
set_option linter.unusedSimpArgs false
open Go.RowKit

set_option maxHeartbeats 1000000 in
theorem i_trans (n : Nat) (A : Option Addr) (L c : Nat) (l : List Int) (w : World) (hn : 1 ≤ n) (hn6 : n ≤ 6) (hL : L = l.length) (h0 : 0 < L) (hl : L ≤ 1000) (hk : InK n l) (hs : IS w w.heap.size A l) :
    Calls Tryz.prog 61 #[.agg #[.int .i64 n, .slice A L c]] w (M (.bool (decide ((orL n l 0).length = n))) w) := by
  have hor := fun m => i_orbit n 0 A L c l ((w.alloc (.cells #[.int .i64 (n : Int), .slice A L c] 26)).drewN m) hn hn6 hL h0 hl hk (by omega) ((hs.call ((Below.refl w.heap.size w).alloc (Nat.le_refl _) (.cells #[.int .i64 (n : Int), .slice A L c] 26))).drewN m)
  have hle := orL_len (p := 0) hk (by omega)
  generalize (orL n l 0) = o at *
  generalize hX : o.length = X at *
  have B0 := BK.new w 26 #[.int .i64 (n : Int), .slice A L c]
  obtain ⟨c0, c1, _, _⟩ := B0.two
  have hb0 := (Below.refl w.heap.size w).alloc (Nat.le_refl _) (.cells #[.int .i64 (n : Int), .slice A L c] 26)
  have hB0 := fun W (h : Below (w.alloc (.cells #[.int .i64 (n : Int), .slice A L c] 26)).heap.size (w.alloc (.cells #[.int .i64 (n : Int), .slice A L c] 26)) W) => (B0.below h (by simp)).two
  have e : decide (X = n) = ((X : Int) == (n : Int)) := by rw [Bool.eq_iff_iff]; simp; omega
  rw [e]
  have hor := hor 1
  clear hL hs hk B0 e hX
  go_enter Tryz.func61, Tryz.ntmps61
  go_wp2_with (fail)
  go_region_law
    (go_simp; first
      | (go_at_call 124; refine hor.mono ?_; rintro e w2 ⟨v, rfl, ho, hb2⟩; obtain ⟨A2, c2, rfl, _⟩ := own_slice' ho; have hb2' := undrew (n := 1) hb2; obtain ⟨d0, d1, _, _⟩ := hB0 _ hb2')
       | (go_at_call 92; refine (i_size _ _ _ _).mono ?_; rintro e w3 ⟨rfl, nq, rfl⟩))
  all_goals
    go_wp2_with (fail)
    go_ret
    first
      | exact ⟨rfl, bel_call hb0 hb2'⟩
      | exact ⟨rfl, below_drewN (bel_call hb0 hb2') _⟩
set_option maxHeartbeats 1000000 in
theorem s_trans (n : Nat) (A : Option Addr) (L c : Nat) (l : List Int) (w : World) (hn : 1 ≤ n) (hn6 : n ≤ 6) (hL : L = l.length) (h0 : 0 < L) (hl : L ≤ 1000) (hk : InK n l) (hs : IS w w.heap.size A l) :
    Calls Tryz.prog 65 #[.agg #[.int .i64 n, .slice A L c]] w (M (.bool (decide ((orL n l 0).length = n))) w) := by
  have hor := fun m => s_orbit n 0 A L c l ((w.alloc (.cells #[.int .i64 (n : Int), .slice A L c] 26)).drewN m) hn hn6 hL hl hk (by omega) ((hs.call ((Below.refl w.heap.size w).alloc (Nat.le_refl _) (.cells #[.int .i64 (n : Int), .slice A L c] 26))).drewN m)
  have hle := orL_len (p := 0) hk (by omega)
  generalize (orL n l 0) = o at *
  generalize hX : o.length = X at *
  have B0 := BK.new w 26 #[.int .i64 (n : Int), .slice A L c]
  obtain ⟨c0, c1, _, _⟩ := B0.two
  have hb0 := (Below.refl w.heap.size w).alloc (Nat.le_refl _) (.cells #[.int .i64 (n : Int), .slice A L c] 26)
  have hB0 := fun W (h : Below (w.alloc (.cells #[.int .i64 (n : Int), .slice A L c] 26)).heap.size (w.alloc (.cells #[.int .i64 (n : Int), .slice A L c] 26)) W) => (B0.below h (by simp)).two
  have e : decide (X = n) = ((X : Int) == (n : Int)) := by rw [Bool.eq_iff_iff]; simp; omega
  rw [e]
  have hor := hor 1
  clear hL hs hk B0 e hX
  go_enter Tryz.func65, Tryz.ntmps65
  go_wp2_with (fail)
  go_region_law
    (go_simp; first
      | (go_at_call 135; refine hor.mono ?_; rintro e w2 ⟨v, rfl, ho, hb2⟩; obtain ⟨A2, c2, rfl, _⟩ := own_slice' ho; have hb2' := undrew (n := 1) hb2; obtain ⟨d0, d1, _, _⟩ := hB0 _ hb2')
      )
  all_goals
    go_wp2_with (fail)
    go_ret
    first
      | exact ⟨rfl, bel_call hb0 hb2'⟩
      | exact ⟨rfl, below_drewN (bel_call hb0 hb2') _⟩
end Go.Proofs.YtglijcdnnaekkaaGreat

/- OrbitsOf on both sides; groups that a law opens. -/
import Derived.Test.YtglijcdnnaekkaaGreatA173
import Derived.Test.YtglijcdnnaekkaaGreatA84
namespace Go.Proofs.YtglijcdnnaekkaaGreat
set_option linter.unusedVariables false
set_option linter.unusedSimpArgs false
open Go.ChangeShapes Go.WideShapes Go.ChangeAt Go.RowKit

theorem grpB_t {p : Int} {l : List Int} (h : grpB p l = true) : ∃ n : Nat, p = n ∧ 1 ≤ n ∧ n ≤ 6 ∧ 0 < l.length ∧ l.length ≤ 720 ∧ InK n l := by
  unfold grpB at h
  simp only [Bool.and_eq_true, decide_eq_true_eq] at h
  obtain ⟨h1, h2, h3, h4, h5⟩ := h
  obtain ⟨p1, p2⟩ := inB_true h1
  obtain ⟨n, rfl⟩ : ∃ n : Nat, p = n := ⟨p.toNat, by omega⟩
  rw [Int.toNat_natCast] at h4
  have hall := riseB_p h4
  have h6 := rise_len (f := fact n) hall
  have h7 := (fact_le (show n ≤ 6 by omega)).2
  exact ⟨n, rfl, by omega, by omega, h2, by omega, rise_in hall⟩
/-- A table of rows and a code. -/
def RLS (ll : List (List Int)) (code : Int) (w : World) (e : Ending) (w' : World) : Prop :=
  ∃ A m c vs, m = ll.length ∧ e = .returned (.tuple #[.slice A m c, .int .i64 code]) ∧ w'.ownsRow w.heap.size 24 1 (.slice A m c) m vs ∧ RowsO w' w.heap.size vs ll ∧ Below w.heap.size w w'
theorem rls_none (w w' : World) (code : Int) (hb : Below w.heap.size w w') : RLS [] code w (.returned (.tuple #[.slice none 0 0, .int .i64 code])) w' :=
  ⟨none, 0, 0, [], rfl, rfl, World.ownsRow_nil _ _ _ _, ⟨rfl, fun i h => by simp at h, fun i j _ h => by simp at h⟩, hb⟩
theorem c_idx0 (v : Value) (w : World) : Calls Tryz.prog 177 #[.slice none 0 0, v] w (Q (.int .i64 (-1)) w) := by
  go_enter Tryz.func177, Tryz.ntmps177
  go_wp2_with (fail)
  go_loopw [8] (fun u wr => u = .int .i64 0 ∧ DR w wr) (fun _ _ => 0)
  case atStart => exact ⟨rfl, DR.refl _⟩
  case round =>
    obtain ⟨rfl, hdr⟩ := hrel
    go_wp2_with (fail)
    go_ret
    exact ⟨rfl, hdr⟩
theorem c_cont0 (v : Value) (w : World) : Calls Tryz.prog 137 #[.slice none 0 0, v] w (Q (.bool false) w) := by
  go_enter Tryz.func137, Tryz.ntmps137
  go_wp2_with (go_at_call 177; refine (c_idx0 _ _).mono ?_; rintro e w' ⟨rfl, nq, rfl⟩)
  go_ret
  exact ⟨rfl, nq, rfl⟩
def mvC (p : Int) (l : List Int) : Int := if grpB p l then 0 else 1
set_option maxHeartbeats 1000000 in
theorem i_moved0 (p : Int) (A : Option Addr) (L c : Nat) (l : List Int) (w : World) (hL : L = l.length) (hl : L ≤ 1048576) (hs : IS w w.heap.size A l) :
    Calls Tryz.prog 70 #[.agg #[.int .i64 p, .slice A L c], .slice none 0 0] w (M (.int .i64 (mvC p l)) w) := by
  obtain ⟨c0, c1, _, _⟩ := (BK.new w 26 #[.int .i64 p, .slice A L c]).two
  have hb0 := (Below.refl w.heap.size w).alloc (Nat.le_refl _) (.cells #[.int .i64 p, .slice A L c] 26)
  have hs0 := hs.call hb0
  have hg := i_IsGroup p A L c l _ hL hl hs0
  unfold mvC
  generalize grpB p l = b at *
  clear hL hs hs0
  cases b
  · go_enter Tryz.func70, Tryz.ntmps70
    go_wp2_with (go_at_call 60; refine hg.mono ?_; rintro e w2 ⟨rfl, hb2⟩)
    go_ret
    exact ⟨rfl, bel_call hb0 hb2⟩
  · go_enter Tryz.func70, Tryz.ntmps70
    go_wp2_with (first
      | (go_at_call 60; refine hg.mono ?_; rintro e w2 ⟨rfl, hb2⟩)
      | (go_at_call 137; refine (c_cont0 _ _).mono ?_; rintro e w3 ⟨rfl, nq, rfl⟩))
    go_ret
    exact ⟨rfl, below_drewN (bel_call hb0 hb2) _⟩
def ooL (p : Int) (l : List Int) : List (List Int) := if grpB p l then obL p.toNat l p.toNat else []
end Go.Proofs.YtglijcdnnaekkaaGreat

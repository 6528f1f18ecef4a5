/- OrbitsOf on both sides; groups that a law opens. -/
import Derived.Test.YthjoegoeaiemdaaA173
import Derived.Test.YthjoegoeaiemdaaA84
namespace Go.Proofs.Ythjoegoeaiemdaa
set_option linter.unusedVariables false
set_option linter.unusedSimpArgs false
open Go.ChangeShapes Go.WideShapes Go.ChangeAt Go.RowKit

theorem grpB_t {p : Int} {l : List Int} (h : grpB p l = true) : ∃ n : Nat, p = n ∧ 1 ≤ n ∧ n ≤ 6 ∧ 0 < l.length ∧ l.length ≤ 720 ∧ InK n l := by
  unfold grpB at h
  simp only [Bool.and_eq_true, decide_eq_true_eq] at h
  obtain ⟨h1, h2, h3, h4, h5⟩ := h
  obtain ⟨p1, p2⟩ := inB_true h1
  obtain ⟨n, rfl⟩ : ∃ n : Nat, p = n := ⟨p.toNat, by omega⟩
  rw [Int.toNat_natCast] at h4
  have hall := riseB_p h4
  have h6 := rise_len (f := fact n) hall
  have h7 := (fact_le (show n ≤ 6 by omega)).2
  exact ⟨n, rfl, by omega, by omega, h2, by omega, rise_in hall⟩
/-- A table of rows and a code. -/
def RLS (ll : List (List Int)) (code : Int) (w : World) (e : Ending) (w' : World) : Prop :=
  ∃ A m c vs, m = ll.length ∧ e = .returned (.tuple #[.slice A m c, .int .i64 code]) ∧ w'.ownsRow w.heap.size 24 1 (.slice A m c) m vs ∧ RowsO w' w.heap.size vs ll ∧ Below w.heap.size w w'
theorem rls_none (w w' : World) (code : Int) (hb : Below w.heap.size w w') : RLS [] code w (.returned (.tuple #[.slice none 0 0, .int .i64 code])) w' :=
  ⟨none, 0, 0, [], rfl, rfl, World.ownsRow_nil _ _ _ _, ⟨rfl, fun i h => by simp at h, fun i j _ h => by simp at h⟩, hb⟩
theorem c_idx0 (v : Value) (w : World) : Calls Try.prog 159 #[.slice none 0 0, v] w (Q (.int .i64 (-1)) w) := by
  go_enter Try.func159, Try.ntmps159
  go_wp2_with (fail)
  go_loopw [8] (fun u wr => u = .int .i64 0 ∧ DR w wr) (fun _ _ => 0)
  case atStart => exact ⟨rfl, DR.refl _⟩
  case round =>
    obtain ⟨rfl, hdr⟩ := hrel
    go_wp2_with (fail)
    go_ret
    exact ⟨rfl, hdr⟩
theorem c_cont0 (v : Value) (w : World) : Calls Try.prog 121 #[.slice none 0 0, v] w (Q (.bool false) w) := by
  go_enter Try.func121, Try.ntmps121
  go_wp2_with (go_at_call 159; refine (c_idx0 _ _).mono ?_; rintro e w' ⟨rfl, nq, rfl⟩)
  go_ret
  exact ⟨rfl, nq, rfl⟩
def mvC (p : Int) (l : List Int) : Int := if grpB p l then 0 else 1
set_option maxHeartbeats 1000000 in
theorem i_moved0 (p : Int) (A : Option Addr) (L c : Nat) (l : List Int) (w : World) (hL : L = l.length) (hl : L ≤ 1048576) (hs : IS w w.heap.size A l) :
    Calls Try.prog 62 #[.agg #[.int .i64 p, .slice A L c], .slice none 0 0] w (M (.int .i64 (mvC p l)) w) := by
  obtain ⟨c0, c1, _, _⟩ := (BK.new w 26 #[.int .i64 p, .slice A L c]).two
  have hb0 := (Below.refl w.heap.size w).alloc (Nat.le_refl _) (.cells #[.int .i64 p, .slice A L c] 26)
  have hs0 := hs.call hb0
  have hg := i_IsGroup p A L c l _ hL hl hs0
  unfold mvC
  generalize grpB p l = b at *
  clear hL hs hs0
  cases b
  · go_enter Try.func62, Try.ntmps62
    go_wp2_with (go_at_call 120; refine hg.mono ?_; rintro e w2 ⟨rfl, hb2⟩)
    go_ret
    exact ⟨rfl, bel_call hb0 hb2⟩
  · go_enter Try.func62, Try.ntmps62
    go_wp2_with (first
      | (go_at_call 120; refine hg.mono ?_; rintro e w2 ⟨rfl, hb2⟩)
      | (go_at_call 121; refine (c_cont0 _ _).mono ?_; rintro e w3 ⟨rfl, nq, rfl⟩))
    go_ret
    exact ⟨rfl, below_drewN (bel_call hb0 hb2) _⟩
def ooL (p : Int) (l : List Int) : List (List Int) := if grpB p l then obL p.toNat l p.toNat else []
set_option maxHeartbeats 1000000 in
theorem i_OrbitsOf (p : Int) (A : Option Addr) (L c : Nat) (l : List Int) (w : World) (hL : L = l.length) (hl : L ≤ 1048576) (hs : IS w w.heap.size A l) :
    Calls Try.prog 18 #[.agg #[.int .i64 p, .slice A L c]] w (RLS (ooL p l) (mvC p l) w) := by
  have B0 := BK.new w 26 #[.int .i64 p, .slice A L c]
  obtain ⟨c0, c1, _, _⟩ := B0.two
  have hb0 := (Below.refl w.heap.size w).alloc (Nat.le_refl _) (.cells #[.int .i64 p, .slice A L c] 26)
  have hs0 := hs.call hb0
  have hB0 := fun W (h : Below (w.alloc (.cells #[.int .i64 p, .slice A L c] 26)).heap.size (w.alloc (.cells #[.int .i64 p, .slice A L c] 26)) W) => (B0.below h (by simp)).two
  have hmv := i_moved0 p A L c l _ hL hl hs0
  cases hg : grpB p l
  · have e1 : mvC p l = 1 := by unfold mvC; rw [hg]; rfl
    have e2 : ooL p l = [] := by unfold ooL; rw [hg]; rfl
    rw [e1] at hmv ⊢
    rw [e2]
    clear hg e1 e2 hL hs hs0 B0 hB0
    go_enter Try.func18, Try.ntmps18
    go_wp2_with (go_at_call 62; refine hmv.mono ?_; rintro e w2 ⟨rfl, hb2⟩)
    go_ret2
    exact rls_none _ _ _ (bel_call hb0 hb2)
  · obtain ⟨n, rfl, h1, h2, h3, h4, h5⟩ := grpB_t hg
    have e1 : mvC n l = 0 := by unfold mvC; rw [hg]; rfl
    have e2 : ooL n l = obL n l n := by unfold ooL; rw [hg, Int.toNat_natCast]; rfl
    rw [e1] at hmv ⊢
    rw [e2]
    have hob := fun W h => i_orbits n A L c l W h1 h2 hL (by omega) (by omega) h5 h
    generalize obL n l n = ll at *
    clear hg e1 e2 hL hs h5 B0
    go_enter Try.func18, Try.ntmps18
    go_wp2_with (first
      | (go_at_call 62; refine hmv.mono ?_; rintro e w2 ⟨rfl, hb2⟩; obtain ⟨d0, d1, _, _⟩ := hB0 _ hb2)
      | (go_at_call 71; refine (hob _ (hs0.call hb2)).mono ?_; rintro e w3 ⟨A3, m, c3, vs, hm, rfl, ho3, hr3, hb3⟩; have HM := Lib.hid hm; clear hm))
    go_ret2
    have hz := (bel_call hb0 hb2).size
    exact ⟨_, m, _, vs, HM.out, rfl, own_mono ho3 hz, hr3.mono hz, bel_call (bel_call hb0 hb2) hb3⟩
set_option maxHeartbeats 1000000 in
theorem s_OrbitsOf (p : Int) (A : Option Addr) (L c : Nat) (l : List Int) (w : World) (hL : L = l.length) (hl : L ≤ 1048576) (hs : IS w w.heap.size A l) :
    Calls Try.prog 19 #[.agg #[.int .i64 p, .slice A L c]] w (RLS (ooL p l) (mvC p l) w) := by
  have B0 := BK.new w 26 #[.int .i64 p, .slice A L c]
  obtain ⟨c0, c1, _, _⟩ := B0.two
  have hb0 := (Below.refl w.heap.size w).alloc (Nat.le_refl _) (.cells #[.int .i64 p, .slice A L c] 26)
  have hs0 := hs.call hb0
  have hB0 := fun W (h : Below (w.alloc (.cells #[.int .i64 p, .slice A L c] 26)).heap.size (w.alloc (.cells #[.int .i64 p, .slice A L c] 26)) W) => (B0.below h (by simp)).two
  have hmv := s_IsGroup p A L c l _ hL hl hs0
  cases hg : grpB p l
  · have e1 : mvC p l = 1 := by unfold mvC; rw [hg]; rfl
    have e2 : ooL p l = [] := by unfold ooL; rw [hg]; rfl
    rw [hg] at hmv
    rw [e1, e2]
    clear hg e1 e2 hL hs hs0 B0 hB0
    go_enter Try.func19, Try.ntmps19
    go_wp2_with (go_at_call 70; refine hmv.mono ?_; rintro e w2 ⟨rfl, hb2⟩)
    go_ret2
    exact rls_none _ _ _ (bel_call hb0 hb2)
  · rw [hg] at hmv
    obtain ⟨n, rfl, h1, h2, h3, h4, h5⟩ := grpB_t hg
    have e1 : mvC n l = 0 := by unfold mvC; rw [hg]; rfl
    have e2 : ooL n l = obL n l n := by unfold ooL; rw [hg, Int.toNat_natCast]; rfl
    rw [e1, e2]
    have hob := fun W h => s_orbits n A L c l W h1 h2 hL (by omega) (by omega) h5 h
    generalize obL n l n = ll at *
    clear hg e1 e2 hL hs h5 B0
    go_enter Try.func19, Try.ntmps19
    go_wp2_with (first
      | (go_at_call 70; refine hmv.mono ?_; rintro e w2 ⟨rfl, hb2⟩; obtain ⟨d0, d1, _, _⟩ := hB0 _ hb2)
      | (go_at_call 72; refine (hob _ (hs0.call hb2)).mono ?_; rintro e w3 ⟨A3, m, c3, vs, hm, rfl, ho3, hr3, hb3⟩; have HM := Lib.hid hm; clear hm))
    go_ret2
    have hz := (bel_call hb0 hb2).size
    exact ⟨_, m, _, vs, HM.out, rfl, own_mono ho3 hz, hr3.mono hz, bel_call (bel_call hb0 hb2) hb3⟩
end Go.Proofs.Ythjoegoeaiemdaa

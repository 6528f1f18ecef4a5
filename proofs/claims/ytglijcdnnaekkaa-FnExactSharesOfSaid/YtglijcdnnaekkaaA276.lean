/- SharesOf, both sides. -/
import Derived.Test.YtglijcdnnaekkaaA274
import Derived.Test.YtglijcdnnaekkaaA173
import Derived.Test.YtglijcdnnaekkaaA174
namespace Go.Proofs.Ytglijcdnnaekkaa
set_option linter.unusedVariables false
set_option linter.unusedSimpArgs false
open Go.RowKit

/-- The types of a group and how often each occurs. -/
def shT (p : Int) (l : List Int) : List (List Int) := if grpB p l then shO (tyM p.toNat l) l.length else []
def shKs (p : Int) (l : List Int) : List Int := if grpB p l then ctL (tyM p.toNat l) l.length (shO (tyM p.toNat l) l.length) else []
def SHS (p : Int) (l : List Int) (w : World) (e : Ending) (w' : World) : Prop :=
  ∃ (A : Option Addr) (c : Nat) (vs : List Value), e = .returned (.tuple #[.slice A (shT p l).length c, .int .i64 (mvC p l)]) ∧ w'.ownsRow w.heap.size 60 2 (.slice A (shT p l).length c) (shT p l).length (shC vs (shKs p l)) ∧ RowsO w' w.heap.size vs (shT p l) ∧ Below w.heap.size w w'
theorem shT_no {p : Int} {l : List Int} (h : grpB p l = false) : shT p l = [] ∧ shKs p l = [] ∧ mvC p l = 1 := by
  unfold shT shKs mvC
  rw [h]
  exact ⟨rfl, rfl, rfl⟩
theorem shT_yes {n : Nat} {l : List Int} (h : grpB n l = true) : shT n l = shO (tyM n l) l.length ∧ shKs n l = ctL (tyM n l) l.length (shO (tyM n l) l.length) ∧ mvC n l = 0 := by
  unfold shT shKs mvC
  rw [h, Int.toNat_natCast]
  exact ⟨rfl, rfl, rfl⟩
theorem shKs_len (p : Int) (l : List Int) : (shKs p l).length = (shT p l).length := by
  unfold shT shKs
  split
  · rw [ctL_len]
  · rfl
theorem shT_small (p : Int) (l : List Int) : (shT p l).length ≤ 720 ∧ ∀ k, k < (shT p l).length → (gl (shT p l) k).length ≤ 6 := by
  cases h : grpB p l
  · rw [(shT_no h).1]
    exact ⟨by simp, fun k hk => by simp at hk⟩
  · obtain ⟨n, rfl, h1, h2, h3, h4, hk⟩ := grpB_t h
    rw [(shT_yes h).1]
    refine ⟨Nat.le_trans (shO_len _ _) h4, fun k hk' => ?_⟩
    obtain ⟨q, hq, e⟩ := shO_mem.1 (gl_mem hk')
    rw [← e, gl_tyM hq, tyS_len]
    have := cycL_len (gl (memL n l) q)
    rw [(gl_memR hk hq).1] at this
    omega
set_option maxHeartbeats 1000000 in
theorem i_SharesOf (p : Int) (A : Option Addr) (L c : Nat) (l : List Int) (w : World) (hL : L = l.length) (hl : L ≤ 1048576) (hs : IS w w.heap.size A l) :
    Calls Try.prog 18 #[.agg #[.int .i64 p, .slice A L c]] w (SHS p l w) := by
  have B0 := BK.new w 38 #[.int .i64 p, .slice A L c]
  obtain ⟨c0, c1, _, _⟩ := B0.two
  have hb0 := (Below.refl w.heap.size w).alloc (Nat.le_refl _) (.cells #[.int .i64 p, .slice A L c] 38)
  have hs0 := hs.call hb0
  have hB0 := fun W (h : Below (w.alloc (.cells #[.int .i64 p, .slice A L c] 38)).heap.size (w.alloc (.cells #[.int .i64 p, .slice A L c] 38)) W) => (B0.below h (by simp)).two
  have hmv := i_IsGroup p A L c l _ hL hl hs0
  cases hg : grpB p l
  · rw [hg] at hmv
    obtain ⟨v1, v2, v3⟩ := shT_no hg
    unfold SHS
    rw [v1, v2, v3]
    clear hg v1 v2 v3 hL hs hs0 B0 hB0
    go_enter Try.func18, Try.ntmps18
    go_wp2_with (go_at_call 36; refine hmv.mono ?_; rintro e w2 ⟨rfl, hb2⟩)
    go_ret2
    exact ⟨none, 0, [], rfl, World.ownsRow_nil _ _ _ _, ⟨rfl, fun i hi => by simp at hi, fun i j _ hj => by simp at hj⟩, bel_call hb0 hb2⟩
  · rw [hg] at hmv
    obtain ⟨n, rfl, h1, h2, h3, h4, hk⟩ := grpB_t hg
    obtain ⟨v1, v2, v3⟩ := shT_yes hg
    unfold SHS
    rw [v1, v2, v3]
    have hsh := fun W h => i_shares n A L c l W h1 h2 hL (by omega) hk h
    unfold SHR at hsh
    generalize shO (tyM n l) l.length = out at *
    generalize ctL (tyM n l) l.length out = cs at *
    clear hg v1 v2 v3 hL hs B0 hk h3 h4
    go_enter Try.func18, Try.ntmps18
    go_wp2_with (first
      | (go_at_call 36; refine hmv.mono ?_; rintro e w2 ⟨rfl, hb2⟩; obtain ⟨d0, d1, _, _⟩ := hB0 _ hb2)
      | (go_at_call 37; refine (hsh _ (hs0.call hb2)).mono ?_; rintro e w3 ⟨A3, m3, c3, vs3, rfl, rfl, o3, r3, hb3⟩))
    have hz : w.heap.size ≤ w2.heap.size := (bel_call hb0 hb2).size
    go_ret2
    exact ⟨A3, c3, vs3, rfl, own_mono o3 hz, r3.mono hz, bel_call (bel_call hb0 hb2) hb3⟩
set_option maxHeartbeats 1000000 in
theorem s_SharesOf (p : Int) (A : Option Addr) (L c : Nat) (l : List Int) (w : World) (hL : L = l.length) (hl : L ≤ 1048576) (hs : IS w w.heap.size A l) :
    Calls Try.prog 16 #[.agg #[.int .i64 p, .slice A L c]] w (SHS p l w) := by
  have B0 := BK.new w 38 #[.int .i64 p, .slice A L c]
  obtain ⟨c0, c1, _, _⟩ := B0.two
  have hb0 := (Below.refl w.heap.size w).alloc (Nat.le_refl _) (.cells #[.int .i64 p, .slice A L c] 38)
  have hs0 := hs.call hb0
  have hB0 := fun W (h : Below (w.alloc (.cells #[.int .i64 p, .slice A L c] 38)).heap.size (w.alloc (.cells #[.int .i64 p, .slice A L c] 38)) W) => (B0.below h (by simp)).two
  have hmv := s_IsGroup p A L c l _ hL hl hs0
  cases hg : grpB p l
  · rw [hg] at hmv
    obtain ⟨v1, v2, v3⟩ := shT_no hg
    unfold SHS
    rw [v1, v2, v3]
    clear hg v1 v2 v3 hL hs hs0 B0 hB0
    go_enter Try.func16, Try.ntmps16
    go_wp2_with (go_at_call 34; refine hmv.mono ?_; rintro e w2 ⟨rfl, hb2⟩)
    go_ret2
    exact ⟨none, 0, [], rfl, World.ownsRow_nil _ _ _ _, ⟨rfl, fun i hi => by simp at hi, fun i j _ hj => by simp at hj⟩, bel_call hb0 hb2⟩
  · rw [hg] at hmv
    obtain ⟨n, rfl, h1, h2, h3, h4, hk⟩ := grpB_t hg
    obtain ⟨v1, v2, v3⟩ := shT_yes hg
    unfold SHS
    rw [v1, v2, v3]
    have hsh := fun W h => s_shares n A L c l W h1 h2 hL (by omega) hk h
    unfold SHR at hsh
    generalize shO (tyM n l) l.length = out at *
    generalize ctL (tyM n l) l.length out = cs at *
    clear hg v1 v2 v3 hL hs B0 hk h3 h4
    go_enter Try.func16, Try.ntmps16
    go_wp2_with (first
      | (go_at_call 34; refine hmv.mono ?_; rintro e w2 ⟨rfl, hb2⟩; obtain ⟨d0, d1, _, _⟩ := hB0 _ hb2)
      | (go_at_call 35; refine (hsh _ (hs0.call hb2)).mono ?_; rintro e w3 ⟨A3, m3, c3, vs3, rfl, rfl, o3, r3, hb3⟩))
    have hz : w.heap.size ≤ w2.heap.size := (bel_call hb0 hb2).size
    go_ret2
    exact ⟨A3, c3, vs3, rfl, own_mono o3 hz, r3.mono hz, bel_call (bel_call hb0 hb2) hb3⟩
end Go.Proofs.Ytglijcdnnaekkaa

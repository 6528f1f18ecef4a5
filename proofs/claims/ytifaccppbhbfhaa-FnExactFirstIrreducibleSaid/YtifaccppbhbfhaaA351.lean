/- Contracts: greatest common divisors, remainders, both sides. -/
import Derived.Test.YtifaccppbhbfhaaA350
namespace Go.Proofs.Ytifaccppbhbfhaa
set_option linter.unusedVariables false
set_option linter.unusedSimpArgs false
open Go.RowKit

set_option maxRecDepth 10000 in
set_option maxHeartbeats 1000000 in
theorem i_common (P : Nat) [NeZero P] (hP : P ≤ 97) (hp : FX.Prm P) (A A' : Option Addr) (c c' : Nat) (f g : List Int) (w : World) (hl : f.length ≤ 10) (hl' : g.length ≤ 10) (hf : FX.Can P f) (hg : FX.Can P g) (hs : OA w A c f) (hs' : OA w A' c' g) :
    Calls Try.prog 51 #[.int .i64 (P : Int), .slice A f.length c, .slice A' g.length c'] w (RVE (CM P f g) w) := by
  have hst : ∃ (a b : List Int) (A1 A2 : Option Addr) (c1 c2 : Nat), Value.slice A f.length c = .slice A1 a.length c1 ∧ Value.slice A' g.length c' = .slice A2 b.length c2 ∧ OA w A1 c1 a ∧ OA w A2 c2 b ∧ Hid (FX.Can P a ∧ FX.Can P b ∧ a.length ≤ 10 ∧ b.length ≤ 10 ∧ ∀ d, (FX.Dv d (FX.toP P f) ∧ FX.Dv d (FX.toP P g)) ↔ (FX.Dv d (FX.toP P a) ∧ FX.Dv d (FX.toP P b))) := ⟨f, g, A, A', c, c', rfl, rfl, hs, hs', hf, hg, hl, hl', fun _ => Iff.rfl⟩
  have hdiv := fun A A' n c n' c' f g w a1 a2 a3 a4 a5 a6 a7 a8 a9 => i_divide P hP hp A A' n c n' c' f g w a1 a2 a3 a4 a5 a6 a7 a8 a9
  have hmon := fun A n c f w a1 a2 a3 a4 => i_monic P hP hp A n c f w a1 a2 a3 a4
  generalize hx1 : Value.slice A f.length c = x1 at *
  generalize hx2 : Value.slice A' g.length c' = x2 at *
  clear hs hs' hf hg hl hl' hx1 hx2
  obtain ⟨a0, b0, A1, A2, c1, c2, rfl, rfl, hsa, hsb, hst⟩ := hst
  have hb0 := Below.refl w.heap.size w
  go_enter Try.func51, Try.ntmps51
  go_wp2_with (fail)
  go_loopw [1, 2] (fun u1 u2 wr => ∃ (a b : List Int) (A1 A2 : Option Addr) (c1 c2 n1 n2 : Nat), n1 = a.length ∧ n2 = b.length ∧ u1 = .slice A1 n1 c1 ∧ u2 = .slice A2 n2 c2 ∧ wr.ownsRow 0 2 1 (.slice A1 n1 c1) n1 (ints a) ∧ wr.ownsRow 0 2 1 (.slice A2 n2 c2) n2 (ints b) ∧ Hid (FX.Can P a ∧ FX.Can P b ∧ a.length ≤ 10 ∧ b.length ≤ 10 ∧ ∀ d, (FX.Dv d (FX.toP P f) ∧ FX.Dv d (FX.toP P g)) ↔ (FX.Dv d (FX.toP P a) ∧ FX.Dv d (FX.toP P b))) ∧ Below w.heap.size w wr) (fun _ u2 _ => lenV u2)
  case atStart => exact ⟨a0, b0, A1, A2, c1, c2, _, _, rfl, rfl, rfl, rfl, hsa, hsb, hst, hb0⟩
  case round =>
  clear hsa hsb hst hb0
  obtain ⟨wo, rfl⟩ : ∃ wo : World, wo = wr := ⟨_, rfl⟩
  obtain ⟨a, b, A1, A2, c1, c2, n1, n2, hn1, hn2, rfl, rfl, hsa, hsb, hst, hb⟩ := hrel
  have hx := hst.out
  by_cases h0 : n2 = 0
  · subst h0
    obtain rfl : b = [] := List.eq_nil_of_length_eq_zero hn2.symm
    have hm := hmon A1 n1 c1 a wo hn1 (by omega) hx.1 (own_isn hsa hn1)
    have HC : Hid (∀ l, MN P a l → CM P f g l) := fun l hl => cm_of P hx.2.2.2.2 hl
    clear hx hn2 hdiv hmon hst hn1
    go_wp2_with (go_at_call 48; refine hm.mono ?_; clear hm; rintro e w3 ⟨l, h5, A3, c3, rfl, ho3, hb4⟩)
    go_ret
    exact ⟨l, HC.out l h5, RV.pre ⟨A3, c3, rfl, ho3, hb4⟩ hb⟩
  · have hd := hdiv A1 A2 n1 c1 n2 c2 a b wo hn1 hn2 (by omega) (by omega) (by omega) hx.1 hx.2.1 hsa (own_isn hsb hn2)
    have hpos : 0 < n2 := by omega
    have HN2 := Lib.hid hn2
    clear hx hdiv hmon hn1 hn2 h0
    go_wp2_with (go_at_call 50; refine hd.mono ?_; clear hd; rintro e w3 ⟨q, r, A3, A4, c3, c4, hq, rfl, ho3, ho4, hb4⟩)
    have HQ := Lib.hid hq
    have hlt : r.length < n2 := by have := hq.2.2.2.1; have := HN2.out; omega
    clear hq
    obtain ⟨n4, hn4⟩ : ∃ n4, n4 = r.length := ⟨_, rfl⟩
    have ho4 := own_mono (base' := 0) ho4 (Nat.zero_le _)
    rw [← hn4] at ho4 hlt ⊢
    have HN4 := Lib.hid hn4
    clear hn4
    have hsb2 := own_below hsb hb4
    clear hsa hsb ho3
    go_wp2_with (fail)
    go_roundw
    case rel =>
      refine ⟨b, r, A2, A4, c2, c4, n2, n4, HN2.out, HN4.out, rfl, rfl, hsb2, ho4, ?_, bel_call hb hb4⟩
      obtain ⟨z1, z2, z3, z4, z5⟩ := hst.out
      obtain ⟨y1, y2, y3, y4, y5⟩ := HQ.out
      exact ⟨z2, y2, z4, by have := HN2.out; have := HN4.out; omega, fun d => (z5 d).trans (FX.cd_step y3 d)⟩
    case measure => simp [lenV]; omega
set_option maxRecDepth 10000 in
set_option maxHeartbeats 1000000 in
theorem s_common (P : Nat) [NeZero P] (hP : P ≤ 97) (hp : FX.Prm P) (A A' : Option Addr) (c c' : Nat) (f g : List Int) (w : World) (hl : f.length ≤ 10) (hl' : g.length ≤ 10) (hf : FX.Can P f) (hg : FX.Can P g) (hs : OA w A c f) (hs' : OA w A' c' g) :
    Calls Try.prog 69 #[.int .i64 (P : Int), .slice A f.length c, .slice A' g.length c'] w (RVE (CM P f g) w) := by
  have hst : ∃ (a b : List Int) (A1 A2 : Option Addr) (c1 c2 : Nat), Value.slice A f.length c = .slice A1 a.length c1 ∧ Value.slice A' g.length c' = .slice A2 b.length c2 ∧ OA w A1 c1 a ∧ OA w A2 c2 b ∧ Hid (FX.Can P a ∧ FX.Can P b ∧ a.length ≤ 10 ∧ b.length ≤ 10 ∧ ∀ d, (FX.Dv d (FX.toP P f) ∧ FX.Dv d (FX.toP P g)) ↔ (FX.Dv d (FX.toP P a) ∧ FX.Dv d (FX.toP P b))) := ⟨f, g, A, A', c, c', rfl, rfl, hs, hs', hf, hg, hl, hl', fun _ => Iff.rfl⟩
  have hdiv := fun A A' n c n' c' f g w a1 a2 a3 a4 a5 a6 a7 a8 a9 => s_divide P hP hp A A' n c n' c' f g w a1 a2 a3 a4 a5 a6 a7 a8 a9
  have hmon := fun A n c f w a1 a2 a3 a4 => s_monic P hP hp A n c f w a1 a2 a3 a4
  generalize hx1 : Value.slice A f.length c = x1 at *
  generalize hx2 : Value.slice A' g.length c' = x2 at *
  clear hs hs' hf hg hl hl' hx1 hx2
  obtain ⟨a0, b0, A1, A2, c1, c2, rfl, rfl, hsa, hsb, hst⟩ := hst
  have hb0 := Below.refl w.heap.size w
  go_enter Try.func69, Try.ntmps69
  go_wp2_with (fail)
  go_loopw [1, 2] (fun u1 u2 wr => ∃ (a b : List Int) (A1 A2 : Option Addr) (c1 c2 n1 n2 : Nat), n1 = a.length ∧ n2 = b.length ∧ u1 = .slice A1 n1 c1 ∧ u2 = .slice A2 n2 c2 ∧ wr.ownsRow 0 2 1 (.slice A1 n1 c1) n1 (ints a) ∧ wr.ownsRow 0 2 1 (.slice A2 n2 c2) n2 (ints b) ∧ Hid (FX.Can P a ∧ FX.Can P b ∧ a.length ≤ 10 ∧ b.length ≤ 10 ∧ ∀ d, (FX.Dv d (FX.toP P f) ∧ FX.Dv d (FX.toP P g)) ↔ (FX.Dv d (FX.toP P a) ∧ FX.Dv d (FX.toP P b))) ∧ Below w.heap.size w wr) (fun _ u2 _ => lenV u2)
  case atStart => exact ⟨a0, b0, A1, A2, c1, c2, _, _, rfl, rfl, rfl, rfl, hsa, hsb, hst, hb0⟩
  case round =>
  clear hsa hsb hst hb0
  obtain ⟨wo, rfl⟩ : ∃ wo : World, wo = wr := ⟨_, rfl⟩
  obtain ⟨a, b, A1, A2, c1, c2, n1, n2, hn1, hn2, rfl, rfl, hsa, hsb, hst, hb⟩ := hrel
  have hx := hst.out
  by_cases h0 : n2 = 0
  · subst h0
    obtain rfl : b = [] := List.eq_nil_of_length_eq_zero hn2.symm
    have hm := hmon A1 n1 c1 a wo hn1 (by omega) hx.1 (own_isn hsa hn1)
    have HC : Hid (∀ l, MN P a l → CM P f g l) := fun l hl => cm_of P hx.2.2.2.2 hl
    clear hx hn2 hdiv hmon hst hn1
    go_wp2_with (go_at_call 47; refine hm.mono ?_; clear hm; rintro e w3 ⟨l, h5, A3, c3, rfl, ho3, hb4⟩)
    go_ret
    exact ⟨l, HC.out l h5, RV.pre ⟨A3, c3, rfl, ho3, hb4⟩ hb⟩
  · have hd := hdiv A1 A2 n1 c1 n2 c2 a b wo hn1 hn2 (by omega) (by omega) (by omega) hx.1 hx.2.1 hsa (own_isn hsb hn2)
    have hpos : 0 < n2 := by omega
    have HN2 := Lib.hid hn2
    clear hx hdiv hmon hn1 hn2 h0
    go_wp2_with (go_at_call 68; refine hd.mono ?_; clear hd; rintro e w3 ⟨q, r, A3, A4, c3, c4, hq, rfl, ho3, ho4, hb4⟩)
    have HQ := Lib.hid hq
    have hlt : r.length < n2 := by have := hq.2.2.2.1; have := HN2.out; omega
    clear hq
    obtain ⟨n4, hn4⟩ : ∃ n4, n4 = r.length := ⟨_, rfl⟩
    have ho4 := own_mono (base' := 0) ho4 (Nat.zero_le _)
    rw [← hn4] at ho4 hlt ⊢
    have HN4 := Lib.hid hn4
    clear hn4
    have hsb2 := own_below hsb hb4
    clear hsa hsb ho3
    go_wp2_with (fail)
    go_roundw
    case rel =>
      refine ⟨b, r, A2, A4, c2, c4, n2, n4, HN2.out, HN4.out, rfl, rfl, hsb2, ho4, ?_, bel_call hb hb4⟩
      obtain ⟨z1, z2, z3, z4, z5⟩ := hst.out
      obtain ⟨y1, y2, y3, y4, y5⟩ := HQ.out
      exact ⟨z2, y2, z4, by have := HN2.out; have := HN4.out; omega, fun d => (z5 d).trans (FX.cd_step y3 d)⟩
    case measure => simp [lenV]; omega
set_option maxHeartbeats 1000000 in
theorem i_rest (P : Nat) [NeZero P] (hP : P ≤ 97) (hp : FX.Prm P) (A A' : Option Addr) (c n' c' : Nat) (f g : List Int) (w : World) (hn' : n' = g.length) (h0' : 0 < n') (hl : f.length ≤ 100) (hl' : n' ≤ 100) (hf : FX.Can P f) (hg : FX.Can P g) (hs : OA w A c f) (hs' : IS w w.heap.size A' g) :
    Calls Try.prog 108 #[.int .i64 (P : Int), .slice A f.length c, .slice A' n' c'] w (RVE (RM P f g) w) := by
  have hd := i_divide P hP hp A A' f.length c n' c' f g w rfl hn' h0' hl hl' hf hg hs hs'
  have HR : Hid (∀ q r, DVQ P f g q r → RM P f g r) := fun q r h => ⟨h.2.1, ⟨_, h.2.2.1⟩, h.2.2.2.1⟩
  clear hs hs' hf hg hn' hl hl'
  generalize f.length = n at *
  go_enter Try.func108, Try.ntmps108
  go_wp2_with (go_at_call 50; refine hd.mono ?_; clear hd; rintro e w3 ⟨q, r, A3, A4, c3, c4, hq, rfl, ho3, ho4, hb4⟩)
  go_ret
  exact ⟨r, HR.out q r hq, A4, c4, rfl, ho4, hb4⟩
set_option maxHeartbeats 1000000 in
theorem s_rest (P : Nat) [NeZero P] (hP : P ≤ 97) (hp : FX.Prm P) (A A' : Option Addr) (c n' c' : Nat) (f g : List Int) (w : World) (hn' : n' = g.length) (h0' : 0 < n') (hl : f.length ≤ 100) (hl' : n' ≤ 100) (hf : FX.Can P f) (hg : FX.Can P g) (hs : OA w A c f) (hs' : IS w w.heap.size A' g) :
    Calls Try.prog 115 #[.int .i64 (P : Int), .slice A f.length c, .slice A' n' c'] w (RVE (RM P f g) w) := by
  have hd := s_divide P hP hp A A' f.length c n' c' f g w rfl hn' h0' hl hl' hf hg hs hs'
  have HR : Hid (∀ q r, DVQ P f g q r → RM P f g r) := fun q r h => ⟨h.2.1, ⟨_, h.2.2.1⟩, h.2.2.2.1⟩
  clear hs hs' hf hg hn' hl hl'
  generalize f.length = n at *
  go_enter Try.func115, Try.ntmps115
  go_wp2_with (go_at_call 68; refine hd.mono ?_; clear hd; rintro e w3 ⟨q, r, A3, A4, c3, c4, hq, rfl, ho3, ho4, hb4⟩)
  go_ret
  exact ⟨r, HR.out q r hq, A4, c4, rfl, ho4, hb4⟩
end Go.Proofs.Ytifaccppbhbfhaa
